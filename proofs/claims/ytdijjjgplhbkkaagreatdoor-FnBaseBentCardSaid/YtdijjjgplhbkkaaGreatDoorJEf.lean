/- Tables: what a right one is; plain laws of it. Contracts: columns and rows of a table as they are, of both; what must stand once. Contracts: what must stand once, of both. Contracts: rows as they are, all; what stands twice; of the reference. Contracts: whether a table is right, of both. Contracts: whether a table is right, of both (2). Contracts: whether a table is right, of the program. -/
import Derived.Test.YtdijjjgplhbkkaaGreatDoorJEe
import Derived.Test.YtdijjjgplhbkkaaGreatDoorWj
import Derived.Test.YtdijjjgplhbkkaaGreatDoorJEa
import Derived.Test.YtdijjjgplhbkkaaGreatDoorWl
set_option linter.unusedSimpArgs false
set_option linter.unusedVariables false
set_option linter.unnecessarySimpa false
set_option maxRecDepth 100000
set_option maxHeartbeats 16000000

namespace Go.Vl
open Go Go.RowKit Go.Proofs
theorem qV_iff {a b : Val} : q_Val a b = true ↔ a = b := by
  rw [q_Val_iff']
  constructor
  · rintro ⟨h1, h2, h3⟩
    obtain ⟨k, n, t⟩ := a
    obtain ⟨k', n', t'⟩ := b
    simp only at h1 h2 h3
    rw [h1, h2, tl_inj h3]
  · rintro rfl; exact ⟨rfl, rfl, rfl⟩
theorem qV_comm (a b : Val) : q_Val a b = q_Val b a := by
  cases h : q_Val a b with
  | true => rw [qV_iff.1 h]; exact (qV_refl b).symm
  | false =>
    cases h2 : q_Val b a with
    | false => rfl
    | true => rw [qV_iff.1 h2, qV_refl] at h; cases h
def tSh (t : VTable) (v : Nat) : List Col := (shAll t.first (t.changes.take v)).1
def tNow (t : VTable) (r : VRow) : List Val := rwAll (tSh t r.ver.toNat) (t.changes.drop r.ver.toNat) r.vals
def tL (t : VTable) : List Col := (shAll t.first t.changes).1
theorem tSh_all {t : VTable} {v : Nat} (h : t.changes.length ≤ v) : tSh t v = tL t := by unfold tSh tL; rw [List.take_of_length_le h]
def rowSt (t : VTable) (r : VRow) : Bool := rowOk (tSh t r.ver.toNat) r.vals && rowOk (tL t) (tNow t r)
def idOk (t : VTable) (last : Int) (r : VRow) : Bool := decide (last + 1 ≤ r.id ∧ r.id ≤ t.next - 1 ∧ 0 ≤ r.ver ∧ r.ver ≤ (t.changes.length : Int))
def stGo (t : VTable) : Int → List VRow → Bool
  | _, [] => true
  | last, r :: rs => idOk t last r && (rowSt t r && stGo t r.id rs)
def dupGo : List Val → List Val → Bool
  | _, [] => false
  | seen, v :: vs => (v.k != 0 && seen.any (q_Val v)) || dupGo (seen ++ [v]) vs
def colVs (N : List (List Val)) (k : Nat) : List Val := N.map fun n => n.getD k zVal
def onceAt (L : List Col) (N : List (List Val)) (k : Nat) : Bool := !((L.getD k (kCol 0)).once && dupGo [] (colVs N k))
def onceB (L : List Col) (N : List (List Val)) : Bool := (List.range L.length).all (onceAt L N)
def tabOk (t : VTable) : Bool := (shAll t.first t.changes).2 && (decide (t.changes.length ≤ 8) && (decide (t.rows.length ≤ 8) && (decide (1 ≤ t.next ∧ t.next ≤ 60) && (stGo t 0 t.rows && onceB (tL t) (t.rows.map (tNow t))))))
theorem stGo_drop {t : VTable} {last : Int} {l : List VRow} {i : Nat} (h : i < l.length) : stGo t last (l.drop i) = (idOk t last l[i] && (rowSt t l[i] && stGo t l[i].id (l.drop (i + 1)))) := by
  rw [List.drop_eq_getElem_cons h, stGo]
theorem stGo_end {t : VTable} {last : Int} {l : List VRow} {i : Nat} (h : l.length ≤ i) : stGo t last (l.drop i) = true := by
  rw [List.drop_of_length_le h, stGo]
theorem dupGo_drop {seen l : List Val} {i : Nat} (h : i < l.length) : dupGo seen (l.drop i) = ((l[i].k != 0 && seen.any (q_Val l[i])) || dupGo (seen ++ [l[i]]) (l.drop (i + 1))) := by
  rw [List.drop_eq_getElem_cons h, dupGo]
theorem dupGo_iff : ∀ {l seen : List Val}, dupGo seen l = true ↔ ∃ i, ∃ h : i < l.length, l[i].k ≠ 0 ∧ (l[i] ∈ seen ∨ ∃ j, ∃ hj : j < i, l[j]'(by omega) = l[i])
  | [], seen => by simp [dupGo]
  | v :: vs, seen => by
    rw [dupGo, Bool.or_eq_true, Bool.and_eq_true, dupGo_iff (l := vs)]
    constructor
    · rintro (⟨h1, h2⟩ | ⟨i, hi, h1, h2⟩)
      · refine ⟨0, by simp, by simpa using h1, .inl ?_⟩
        obtain ⟨x, hx, hq⟩ := List.any_eq_true.1 h2
        simpa [qV_iff.1 hq] using hx
      · refine ⟨i + 1, by simpa using hi, by simpa using h1, ?_⟩
        rcases h2 with h2 | ⟨j, hj, h2⟩
        · rcases List.mem_append.1 h2 with h2 | h2
          · exact .inl (by simpa using h2)
          · exact .inr ⟨0, by omega, by simp at h2; simp [h2]⟩
        · exact .inr ⟨j + 1, by omega, by simpa using h2⟩
    · rintro ⟨i, hi, h1, h2⟩
      cases i with
      | zero =>
        left
        refine ⟨by simpa using h1, ?_⟩
        rcases h2 with h2 | ⟨j, hj, _⟩
        · exact List.any_eq_true.2 ⟨v, by simpa using h2, qV_refl v⟩
        · omega
      | succ i =>
        right
        refine ⟨i, by simpa using hi, by simpa using h1, ?_⟩
        rcases h2 with h2 | ⟨j, hj, h2⟩
        · exact .inl (List.mem_append_left _ (by simpa using h2))
        · cases j with
          | zero => exact .inl (List.mem_append_right _ (by simp at h2; simp [h2]))
          | succ j => exact .inr ⟨j, by omega, by simpa using h2⟩
theorem mGet_put {α β : Type} {eqb : α → α → Bool} (hl : ∀ x y, eqb x y = true ↔ x = y) {x v : α} {b : β} : ∀ {l : List (α × β)}, mGet eqb x (mPut eqb v b l) = if eqb x v then some b else mGet eqb x l
  | [] => by simp [mPut, mGet]
  | (k, u) :: l => by
    unfold mPut
    by_cases hvk : eqb v k = true
    · rw [if_pos hvk]
      have e := (hl _ _).1 hvk
      subst e
      simp only [mGet]
      split <;> rfl
    · rw [if_neg hvk]
      simp only [mGet]
      rw [mGet_put hl]
      by_cases hxk : eqb x k = true
      · rw [if_pos hxk, if_pos hxk, if_neg]
        intro hxv
        rw [(hl _ _).1 hxv] at hxk
        exact hvk hxk
      · rw [if_neg hxk, if_neg hxk]
structure TOk (t : VTable) : Prop where
  sh : (shAll t.first t.changes).2 = true
  c8 : t.changes.length ≤ 8
  r8 : t.rows.length ≤ 8
  nx : 1 ≤ t.next ∧ t.next ≤ 60
  st : stGo t 0 t.rows = true
  on : onceB (tL t) (t.rows.map (tNow t)) = true
theorem tabOk_iff {t : VTable} : tabOk t = true ↔ TOk t := by
  unfold tabOk
  simp only [Bool.and_eq_true, decide_eq_true_eq]
  exact ⟨fun ⟨a, b, c, d, e, f⟩ => ⟨a, b, c, d, e, f⟩, fun ⟨a, b, c, d, e, f⟩ => ⟨a, b, c, d, e, f⟩⟩
theorem stGo_at {t : VTable} : ∀ {l : List VRow} {last : Int}, stGo t last l = true → ∀ i (h : i < l.length), last + 1 ≤ l[i].id ∧ l[i].id ≤ t.next - 1 ∧ (0 ≤ l[i].ver ∧ l[i].ver ≤ (t.changes.length : Int)) ∧ rowSt t l[i] = true ∧ ∀ j (hj : j < i), (l[j]'(by omega)).id < l[i].id
  | [], _, _, i, h => by simp at h
  | r :: rs, last, hs, i, h => by
    rw [stGo, Bool.and_eq_true, Bool.and_eq_true] at hs
    obtain ⟨h1, h2, h3⟩ := hs
    simp only [idOk, decide_eq_true_eq] at h1
    cases i with
    | zero => exact ⟨h1.1, h1.2.1, h1.2.2, h2, fun j hj => by omega⟩
    | succ i =>
      obtain ⟨k1, k2, k3, k4, k5⟩ := stGo_at h3 i (by simpa using h)
      refine ⟨by simp only [List.getElem_cons_succ]; omega, by simpa using k2, by simpa using k3, by simpa using k4, fun j hj => ?_⟩
      cases j with
      | zero => simp only [List.getElem_cons_succ, List.getElem_cons_zero]; omega
      | succ j => simpa using k5 j (by omega)
theorem shAll_tL {t : VTable} (h : (shAll t.first t.changes).2 = true) : shAll t.first t.changes = (tL t, true) := by unfold tL; rw [← h]
theorem tSh_cut {t : VTable} (h : (shAll t.first t.changes).2 = true) (v : Nat) : shAll t.first (t.changes.take v) = (tSh t v, true) ∧ chGo t.first (t.changes.take v) = some (tSh t v) ∧ chGo (tSh t v) (t.changes.drop v) = some (tL t) ∧ shapeOk (tSh t v) = true ∧ shapeOk t.first = true ∧ shapeOk (tL t) = true := by
  obtain ⟨a, h1, _, h3, h4, h5, h6, h7⟩ := shAll_cut (shAll_tL h) v
  have e : tSh t v = a := by unfold tSh; rw [h1]
  rw [e]
  exact ⟨h1, h4, h5, h7, h6, h3⟩
theorem tNow_go {t : VTable} {r : VRow} (h : (shAll t.first t.changes).2 = true) (hr : r.vals.length = (tSh t r.ver.toNat).length) : tNow t r = rwGo (tSh t r.ver.toNat) (t.changes.drop r.ver.toNat) r.vals ∧ (tNow t r).length = (tL t).length := by
  obtain ⟨_, _, h3, h4, _, _⟩ := tSh_cut h r.ver.toNat
  have e : tNow t r = rwGo (tSh t r.ver.toNat) (t.changes.drop r.ver.toNat) r.vals := rwAll_yes h4 h3 hr
  exact ⟨e, by rw [e]; exact rwGo_len h3 h4 hr⟩
theorem rowIn_ln {cs : List Col} {vs : List Val} (h : rowIn cs vs = true) : vs.length = cs.length := by
  unfold rowIn at h
  split at h
  · cases h
  · rename_i h2; simpa using h2
theorem rowOk_len {cs : List Col} {vs : List Val} (h : rowOk cs vs = true) : vs.length = cs.length := by
  unfold rowOk at h
  simp only [Bool.and_eq_true] at h
  exact rowIn_ln h.2
theorem rowOk_in {cs : List Col} {vs : List Val} (h : shapeOk cs = true) : rowOk cs vs = rowIn cs vs := by unfold rowOk; rw [h]; rfl
structure VTable.md (t : VTable) : Prop where
  fc : t.first.length + t.changes.length ≤ 1800000
  fm : mdCols t.first
  cm : mdChs t.changes
  r : t.rows.length ≤ 1048576
  rm : ∀ x ∈ t.rows, x.vals.length ≤ 1048576 ∧ mdVals x.vals
theorem tL_md {t : VTable} (h : t.md) : mdCols (tL t) := shAll_md h.fm h.cm
theorem tSh_md {t : VTable} (h : t.md) (v : Nat) : mdCols (tSh t v) := shAll_md h.fm (h.cm.take v)
theorem tL_len (t : VTable) : (tL t).length ≤ t.first.length + t.changes.length := shAll_len _ _
theorem tSh_len (t : VTable) (v : Nat) : (tSh t v).length ≤ t.first.length + v := by
  have := shAll_len t.first (t.changes.take v)
  have h2 : (t.changes.take v).length ≤ v := by simp; omega
  unfold tSh; omega
theorem tNow_md {t : VTable} {r : VRow} (h : t.md) (hr : mdVals r.vals) : mdVals (tNow t r) := by
  unfold tNow rwAll
  split
  · exact rwGo_md (h.cm.drop _) hr
  · exact fun x hx => by cases hx
abbrev shI (x : List Col × Bool) : Slot := .tup [(false, [.imm 7 (x.1.map encCol)]), (false, [.g (.bool x.2)])]
theorem pureSh (x : List Col × Bool) : vS true (Sr [] (shN x)) [] (shS x) = shI x := by
  show Slot.tup [(false, [.imm 7 (((x.1.map encCol).drop 0).take x.1.length)]), (false, [.g (.bool x.2)])] = _
  rw [fzC]
theorem pureVals (l : List Val) {E : TypeId} : vS true (Sr [] [.arr E 3 (l.map encVal)]) [] (.one (.own 0 0 l.length)) = valsI l := by
  show Slot.one (.imm 3 (((l.map encVal).drop 0).take l.length)) = _
  rw [fzV]; rfl
theorem chGo_tL {t : VTable} (h : (shAll t.first t.changes).2 = true) : chGo t.first t.changes = some (tL t) := by
  obtain ⟨ho, L, hg⟩ := shAll_go h
  rw [hg]; unfold tL; rw [shAll_yes ho hg]
def keyL (v : Val) : List Value := [.int .i64 v.k, .int .i64 v.n, .string v.t]
theorem c_tShape (t : VTable) (ht : t.md) (hs : (shAll t.first t.changes).2 = true) : CallsV Tryz.prog 50 [.agg (encVTable t)] [] (pureQ (colsI (tL t))) := by
  have c1 := (c_changes t.first t.changes (by have := ht.fc; omega) ht.fm ht.cm).pure (pureSh _)
  rw [chGo_tL hs] at c1
  replace c1 : CallsV _ _ _ _ (pureQ (shI (tL t, true))) := c1
  generalize tL t = L at c1 ⊢
  obtain ⟨first, changes, rows, next⟩ := t
  refine pureF_walk hTb Tryz.func50 rfl rfl Tryz.ntmps50 (by simp) ?_
  (conv => whnf); repeat' ((first | (refine VR.pure hTb rfl rfl (o_purF (c1) rfl rfl rfl gQ rfl) ?_)) <;> conv => whnf)
  exact endFz rfl rfl rfl
theorem c_tNow (t : VTable) (r : VRow) (ht : t.md) (hs : (shAll t.first t.changes).2 = true) (hv : 0 ≤ r.ver ∧ r.ver ≤ (t.changes.length : Int)) (hn : r.vals.length = (tSh t r.ver.toNat).length) (hr : mdVals r.vals) :
    CallsV Tryz.prog 54 [.agg (encVTable t), .agg (encVRow r)] [] (funQ (.one (.own 0 0 (tNow t r).length)) [] [.arr 37 3 ((tNow t r).map encVal)]) := by
  obtain ⟨h1, h2, h3, h4, h5, h6⟩ := tSh_cut hs r.ver.toNat
  have e := (tNow_go hs hn).1
  have hfc := ht.fc
  have hl := tSh_len t r.ver.toNat
  have c1 := (c_changes t.first (t.changes.take r.ver.toNat) (by simp; omega) ht.fm (ht.cm.take _)).pure (pureSh _)
  rw [h2] at c1
  have c2 := c_changeRows (tSh t r.ver.toNat) (t.changes.drop r.ver.toNat) r.vals (by simp; omega) (tSh_md ht _) (ht.cm.drop _) hr h4 h3 hn
  rw [← e] at c2
  replace c1 : CallsV _ _ _ _ (pureQ (shI (tSh t r.ver.toNat, true))) := c1
  clear h1 h2 h3 h4 h5 h6 e hl hfc hn hs ht hr
  generalize tSh t r.ver.toNat = L at c1 c2
  generalize tNow t r = w at c2 ⊢
  obtain ⟨k, hk⟩ : ∃ k : Nat, r.ver = k := ⟨r.ver.toNat, by omega⟩
  rw [hk] at c1 c2 hv
  obtain ⟨first, changes, rows, next⟩ := t
  obtain ⟨id, ver, vals⟩ := r
  simp only [Int.toNat_natCast] at hk c1 c2 hv
  subst hk
  have hk : k ≤ changes.length := by omega
  refine funF_walk hTb Tryz.func54 rfl rfl Tryz.ntmps54 (by simp) (by simp) ?_
  (conv => whnf); repeat' ((first | (refine And.intro ?_ ?_ <;> ((try intro h) <;> (try simp only [gS] at h) <;> first | exact absurd h gF | exact absurd h.symm gF | conv => whnf)) | (refine VL.drawS hTb hMix (by kernel_rfl) (by kernel_rfl) (by kernel_rfl) ?_) | (refine Need.mk ?_; kernel_rfl) | (refine DT.op hTb rfl (o_slice_imm (n1 := 0) (n2 := k) (rows' := (changes.take k).map encChange) hTb rfl rfl rfl rfl rfl rfl bnd_none (bnd_some rfl) (Nat.zero_le _) (by simp; omega) (by rw [List.drop_zero, Nat.sub_zero, List.map_take])) rfl ?_) | (refine DT.op hTb rfl (o_slice_imm (n1 := k) (n2 := (changes.map encChange).length) (rows' := (changes.drop k).map encChange) hTb rfl rfl rfl rfl rfl rfl (bnd_some rfl) bnd_none (by simp; omega) (Nat.le_refl _) (by rw [← List.map_drop]; exact List.take_of_length_le (by simp))) rfl ?_) | (refine DT.pure hTb rfl (o_purF (c1) rfl rfl rfl gQ rfl) ?_) | (refine DT.fun hTb rfl (o_funN (c2) false [] gN (by simp) rfl rfl rfl rfl rfl gQ rfl rfl) rfl ?_)) <;> conv => whnf)
  exact endW [1104] rfl rfl rfl rfl rfl (LeS.refl _) rfl rfl
theorem c_l3Shape (t : VTable) (v : Int) (ht : t.md) (hv : 0 ≤ v ∧ v ≤ (t.changes.length : Int)) : CallsV Tryz.prog 120 [.agg (encVTable t), iS v] [] (pureQ (colsI (tSh t v.toNat))) := by
  have hfc := ht.fc
  obtain ⟨k, hk⟩ : ∃ k : Nat, v = k := ⟨v.toNat, by omega⟩
  subst hk
  have hk : k ≤ t.changes.length := by omega
  rw [Int.toNat_natCast]
  have c1 := (c_specShapeAll t.first (t.changes.take k) (by simp; omega) ht.fm (ht.cm.take _)).pure (pureSh _)
  unfold tSh
  obtain ⟨first, changes, rows, next⟩ := t
  simp only at c1 hk ⊢
  generalize shAll first (changes.take k) = x at c1 ⊢
  obtain ⟨x, b⟩ := x
  refine pureF_walk hTb Tryz.func120 rfl rfl Tryz.ntmps120 (by simp) ?_
  (conv => whnf); repeat' ((first | (refine And.intro ?_ ?_ <;> ((try intro h) <;> (try simp only [gS] at h) <;> first | exact absurd h gF | exact absurd h.symm gF | conv => whnf)) | (refine VL.drawS hTb hMix (by kernel_rfl) (by kernel_rfl) (by kernel_rfl) ?_) | (refine Need.mk ?_; kernel_rfl) | (refine DT.op hTb rfl (o_slice_imm (n1 := 0) (n2 := k) (rows' := (changes.take k).map encChange) hTb rfl rfl rfl rfl rfl rfl bnd_none (bnd_some rfl) (Nat.zero_le _) (by simp; omega) (by rw [List.drop_zero, Nat.sub_zero, List.map_take])) rfl ?_) | (refine DT.pure hTb rfl (o_purF (c1) rfl rfl rfl gQ rfl) ?_)) <;> conv => whnf)
  exact endFz rfl rfl rfl
theorem c_l3Last (t : VTable) (ht : t.md) : CallsV Tryz.prog 52 [.agg (encVTable t)] [] (pureQ (colsI (tL t))) := by
  have c1 := c_l3Shape t ((t.changes.map encChange).length : Nat) ht ⟨by omega, by simp⟩
  rw [Int.toNat_natCast, tSh_all (by simp)] at c1
  generalize tL t = L at c1 ⊢
  obtain ⟨first, changes, rows, next⟩ := t
  refine pureF_walk hTb Tryz.func52 rfl rfl Tryz.ntmps52 (by simp) ?_
  (conv => whnf); repeat' ((first | (refine VR.pure hTb rfl rfl (o_purF (c1) rfl rfl rfl gQ rfl) ?_)) <;> conv => whnf)
  exact endFz rfl rfl rfl
theorem c_l3Now (t : VTable) (r : VRow) (ht : t.md) (hv : 0 ≤ r.ver ∧ r.ver ≤ (t.changes.length : Int)) (hl : r.vals.length ≤ 1900000) (hr : mdVals r.vals) :
    CallsV Tryz.prog 63 [.agg (encVTable t), .agg (encVRow r)] [] (funQ (.one (.own 0 0 (tNow t r).length)) [] [.arr 37 3 ((tNow t r).map encVal)]) := by
  have hfc := ht.fc
  have hl2 := tSh_len t r.ver.toNat
  have c1 := c_l3Shape t r.ver ht hv
  have c2 := c_specRowAll (tSh t r.ver.toNat) (t.changes.drop r.ver.toNat) r.vals (by simp; omega) hl (tSh_md ht _) (ht.cm.drop _) hr
  replace c2 : CallsV _ _ _ _ (funQ (.one (.own 0 0 (tNow t r).length)) [] [.arr 37 3 ((tNow t r).map encVal)]) := c2
  clear hl2 hfc hl hr ht
  generalize tSh t r.ver.toNat = L at c1 c2
  generalize tNow t r = w at c2 ⊢
  obtain ⟨k, hk⟩ : ∃ k : Nat, r.ver = k := ⟨r.ver.toNat, by omega⟩
  rw [hk] at c1 c2 hv
  obtain ⟨first, changes, rows, next⟩ := t
  obtain ⟨id, ver, vals⟩ := r
  simp only [Int.toNat_natCast] at hk c1 c2 hv
  subst hk
  have hk : k ≤ changes.length := by omega
  refine funF_walk hTb Tryz.func63 rfl rfl Tryz.ntmps63 (by simp) (by simp) ?_
  (conv => whnf); repeat' ((first | (refine And.intro ?_ ?_ <;> ((try intro h) <;> (try simp only [gS] at h) <;> first | exact absurd h gF | exact absurd h.symm gF | conv => whnf)) | (refine VL.drawS hTb hMix (by kernel_rfl) (by kernel_rfl) (by kernel_rfl) ?_) | (refine Need.mk ?_; kernel_rfl) | (refine DT.op hTb rfl (o_slice_imm (n1 := k) (n2 := (changes.map encChange).length) (rows' := (changes.drop k).map encChange) hTb rfl rfl rfl rfl rfl rfl (bnd_some rfl) bnd_none (by simp; omega) (Nat.le_refl _) (by rw [← List.map_drop]; exact List.take_of_length_le (by simp))) rfl ?_) | (refine DT.pure hTb rfl (o_purF (c1) rfl rfl rfl gQ rfl) ?_) | (refine DT.fun hTb rfl (o_funN (c2) false [] gN (by simp) rfl rfl rfl rfl rfl gQ rfl rfl) rfl ?_)) <;> conv => whnf)
  exact endW [1064] rfl rfl rfl rfl rfl (LeS.refl _) rfl rfl
theorem colVs_len (N : List (List Val)) (k : Nat) : (colVs N k).length = N.length := by simp [colVs]
theorem colVs_at {N : List (List Val)} {k i : Nat} (h : i < N.length) : (colVs N k)[i]'(by rw [colVs_len]; exact h) = N[i].getD k zVal := by simp [colVs]
theorem onceB_not {L : List Col} {N : List (List Val)} {k : Nat} (hk : k < L.length) (h : onceAt L N k = false) : onceB L N = false := by
  unfold onceB
  rw [List.all_eq_false]
  exact ⟨k, List.mem_range.2 hk, by simp [h]⟩
theorem onceB_all {L : List Col} {N : List (List Val)} (h : ∀ k, k < L.length → onceAt L N k = true) : onceB L N = true := by
  unfold onceB
  rw [List.all_eq_true]
  exact fun k hk => h k (List.mem_range.1 hk)
theorem mGet_any {seen : List Val} {l : List (Val × Bool)} {v : Val} (h : ∀ x, (mGet q_Val x l).getD false = seen.any (q_Val x)) : ∀ x, (mGet q_Val x (mPut q_Val v true l)).getD false = (seen ++ [v]).any (q_Val x) := by
  intro x
  rw [mGet_put (fun x y => qV_iff), List.any_append]
  cases hq : q_Val x v with
  | true => simp [hq]
  | false => simp [hq, h x]
theorem valAt {l : List Val} {k : Nat} (h : k < l.length) : (l.map encVal)[((k : Nat) : Int).toNat]? = some (encVal (l.getD k zVal)) := by
  rw [Int.toNat_natCast, List.getElem?_map, List.getElem?_eq_getElem h, List.getD_eq_getElem?_getD, List.getElem?_eq_getElem h]; rfl
theorem c_tOnce (t : VTable) (ht : t.md) (hs : (shAll t.first t.changes).2 = true) (hr : ∀ r ∈ t.rows, (0 ≤ r.ver ∧ r.ver ≤ (t.changes.length : Int)) ∧ r.vals.length = (tSh t r.ver.toNat).length) :
    CallsV Tryz.prog 83 [.agg (encVTable t)] [] (pureQ (bS (onceB (tL t) (t.rows.map (tNow t))))) := by
  have cS := c_tShape t ht hs
  have cN := fun r (hm : r ∈ t.rows) => (c_tNow t r ht hs (hr r hm).1 (hr r hm).2 (ht.rm r hm).2).pure (pureVals _)
  have hNl : ∀ i (h : i < t.rows.length), (tNow t t.rows[i]).length = (tL t).length := fun i h => (tNow_go hs (hr _ (List.getElem_mem h)).2).2
  have hLl := tL_len t
  have hfc := ht.fc
  have hrl := ht.r
  obtain ⟨N, hN⟩ : ∃ N, t.rows.map (tNow t) = N := ⟨_, rfl⟩
  have hNn : N.length = t.rows.length := by rw [← hN]; simp
  have hwi : ∀ i (h : i < t.rows.length), tNow t t.rows[i] = N.getD i [] := by intro i h; rw [← hN]; simp [h]
  rw [hN]
  clear hN
  generalize tL t = L at cS hNl hLl ⊢
  have cN := fun i (h : i < t.rows.length) => (hwi i h) ▸ cN t.rows[i] (List.getElem_mem h)
  have hNl := fun i (h : i < t.rows.length) => (hwi i h) ▸ hNl i h
  clear hwi hr hs ht
  obtain ⟨first, changes, rows, next⟩ := t
  simp only at cN hNl hLl hrl hNn hfc
  refine pure_walk hTb Tryz.func83 rfl rfl Tryz.ntmps83 (by simp) ?_
  (conv => whnf); repeat' ((first | (refine VR.pure hTb rfl rfl (o_purF (cS) rfl rfl rfl gQ rfl) ?_)) <;> conv => whnf)
  refine VL.loopI hTb (fun k => k ≤ L.length ∧ ∀ j, j < k → onceAt L N j = true) (fun k => ⟨[(1, .one (.ptr 101 0)), (10, colsI L), (11, iS ((L.map encCol).length : Nat)), (12, iS k)], [(101, .box (encVTable ⟨first, changes, rows, next⟩))], []⟩) (fun k => L.length - k) 0 ⟨Nat.zero_le _, fun j hj => absurd hj (Nat.not_lt_zero _)⟩
    (wk_to [(101, 101)] rfl rfl rfl ⟨rfl, rfl, rfl, rfl, trivial⟩ ⟨rfl, ⟨_, rfl, rfl⟩, trivial⟩) (fun k hk => ?_)
  obtain ⟨hk, hd⟩ := hk
  (conv => whnf)
  refine And.intro (fun h2 => ?_) (fun h2 => ?_)
  · have hlt : k < L.length := by simpa using h2
    have hrow := rowCol hlt
    have hce : L[k] = L.getD k (kCol 0) := by simp [hlt]
    obtain ⟨co, hco⟩ : ∃ co, (L.getD k (kCol 0)).once = co := ⟨_, rfl⟩
    rw [hce] at hrow
    generalize hci : L.getD k (kCol 0) = ci at hrow hco
    obtain ⟨cn, ck, c1, c2, ⟨d1, d2, d3⟩⟩ := ci
    simp only at hco
    subst hco
    (conv => whnf); repeat' ((first | (refine VR.op hTb rfl rfl (o_index_imm hTb rfl rfl rfl rfl rfl rfl rfl (by omega) (hrow)) rfl ?_) | (refine VR.op hTb rfl rfl (o_mkmap (q := 117) rfl rfl (by decide)) rfl ?_)) <;> conv => whnf)
    refine VL.loopI hTb (α := Nat × List (Val × Bool)) (fun x => x.1 ≤ rows.length ∧ (∀ v, (mGet q_Val v x.2).getD false = ((colVs N k).take x.1).any (q_Val v)) ∧ (c2 = true → dupGo [] (colVs N k) = dupGo ((colVs N k).take x.1) ((colVs N k).drop x.1)))
      (fun x => ⟨[(1, .one (.ptr 101 0)), (3, iS k), (4, .one (.ptr 104 0)), (5, .one (.mp 117)), (10, colsI L), (11, iS ((L.map encCol).length : Nat)), (12, iS k), (19, vrowsI rows), (20, iS ((rows.map encVRow).length : Nat)), (21, iS x.1)], [(101, .box (encVTable ⟨first, changes, rows, next⟩)), (104, .box (encCol ⟨cn, ck, c1, c2, ⟨d1, d2, d3⟩⟩)), (117, .map (x.2.map (entV keyL Value.bool)))], []⟩)
      (fun x => rows.length - x.1) (0, []) ⟨Nat.zero_le _, fun v => by simp [mGet], fun _ => by simp⟩
      (wk_to [(101, 101), (104, 104), (117, 117)] rfl rfl rfl ⟨rfl, rfl, rfl, rfl, rfl, rfl, rfl, rfl, rfl, rfl, trivial⟩ ⟨rfl, ⟨_, rfl, rfl⟩, rfl, ⟨_, rfl, rfl⟩, rfl, ⟨_, rfl, rfl⟩, trivial⟩) (fun x hx => ?_)
    obtain ⟨i, l⟩ := x
    obtain ⟨hi, hm, hdu⟩ := hx
    simp only at hi hm hdu
    (conv => whnf)
    refine And.intro (fun h3 => ?_) (fun h3 => ?_)
    · have hil : i < rows.length := by simpa using h3
      have hrw := rowVRow hil
      have hcN := cN i hil
      have hwl := hNl i hil
      have hv := valAt (l := N.getD i []) (k := k) (by omega)
      have hiN : i < N.length := by omega
      have hcv : (colVs N k)[i]'(by rw [colVs_len]; exact hiN) = (N.getD i []).getD k zVal := by rw [colVs_at hiN]; simp [hiN]
      have hst := dupGo_drop (seen := (colVs N k).take i) (l := colVs N k) (i := i) (by rw [colVs_len]; exact hiN)
      have htk : (colVs N k).take (i + 1) = (colVs N k).take i ++ [(colVs N k)[i]'(by rw [colVs_len]; exact hiN)] := by rw [List.take_succ_eq_append_getElem]
      rw [hcv] at hst htk
      generalize (N.getD i []).getD k zVal = vi at hv hst htk
      generalize N.getD i [] = wi at hcN hv
      generalize rows[i] = ri at hrw hcN
      obtain ⟨id, ver, vals⟩ := ri
      have hga := mGet_any (v := vi) hm
      rw [← htk] at hga hst
      rw [← hm vi] at hst
      obtain ⟨v1, v2, v3⟩ := vi
      (conv => whnf); repeat' ((first | (refine And.intro ?_ ?_ <;> ((try intro h) <;> (try simp only [gS] at h) <;> first | exact absurd h gF | exact absurd h.symm gF | conv => whnf)) | (refine VR.op hTb rfl rfl (o_index_imm hTb rfl rfl rfl rfl rfl rfl rfl (by omega) (hrw)) rfl ?_) | (refine VR.op hTb rfl rfl (o_index_imm hTb rfl rfl rfl rfl rfl rfl rfl (by omega) (hv)) rfl ?_) | (refine VR.pure hTb rfl rfl (o_purF (hcN) rfl rfl rfl gQ rfl) ?_) | (refine VR.op hTb rfl rfl (o_lookup (g := keyL) (h := Value.bool) (eqb := q_Val) (l := l) (x := ⟨v1, v2, v3⟩) (z := .bool false) (r := .bool ((mGet q_Val ⟨v1, v2, v3⟩ l).getD false)) hTb rfl rfl rfl rfl rfl (by kernel_rfl) rfl (fun ⟨_, _, _⟩ ⟨_, _, _⟩ => rfl) (fun _ => rfl) rfl rfl rfl rfl (by cases mGet q_Val ⟨v1, v2, v3⟩ l <;> rfl)) rfl ?_) | (refine VR.op hTb rfl rfl (o_mapupd (g := keyL) (h := Value.bool) (eqb := q_Val) (l := l) (x := ⟨v1, v2, v3⟩) (v := true) hTb (.inl rfl) rfl rfl rfl rfl rfl (fun ⟨_, _, _⟩ ⟨_, _, _⟩ => rfl) (fun x y h => by rw [qV_iff.1 h]) rfl rfl rfl rfl rfl rfl) rfl ?_)) <;> conv => whnf)
      · rename_i q2 q1
        refine congrArg bS (onceB_not hlt ?_).symm
        unfold onceAt
        rw [hci]
        simp only
        rw [hdu q2, hst, q2, h]
        simp only at q1 ⊢
        rw [q1]; rfl
      all_goals
        refine ⟨(i + 1, mPut q_Val ⟨v1, v2, v3⟩ true l), ⟨hil, hga, fun hc => ?_⟩, by show rows.length - (i + 1) < rows.length - i; omega, wk_to [(101, 101), (104, 104), (117, 117)] rfl rfl rfl ⟨rfl, rfl, rfl, rfl, rfl, rfl, rfl, rfl, rfl, gW (by unfold maxLen; omega), trivial⟩ ⟨rfl, ⟨_, rfl, rfl⟩, rfl, ⟨_, rfl, rfl⟩, rfl, ⟨_, rfl, rfl⟩, trivial⟩⟩
        rw [hdu hc, hst]
        first
          | (rw [h, Bool.and_false, Bool.false_or]; done)
          | (simp only at h; rw [h, Bool.false_and, Bool.false_or]; done)
          | (exfalso; have q := ‹c2 = false›; rw [hc] at q; cases q)
          | (simp [*]; done)
    · have hie : i = rows.length := by simp at h3; omega
      have hon : onceAt L N k = true := by
        unfold onceAt
        rw [hci]
        simp only
        cases c2 with
        | false => rfl
        | true =>
          rw [hdu rfl, List.drop_of_length_le (by rw [colVs_len]; omega)]; rfl
      (conv => whnf)
      refine ⟨k + 1, ⟨hlt, fun j hj => ?_⟩, by show L.length - (k + 1) < L.length - k; omega, wk_to [(101, 101)] rfl rfl rfl ⟨rfl, rfl, rfl, gW (by unfold maxLen; omega), trivial⟩ ⟨rfl, ⟨_, rfl, rfl⟩, trivial⟩⟩
      by_cases hjk : j = k
      · rw [hjk]; exact hon
      · exact hd j (by omega)
  · have hke : k = L.length := by simp at h2; omega
    subst hke
    (conv => whnf)
    exact congrArg bS (onceB_all hd).symm
abbrev encN (n : List Val) : List Leaf := [.imm 3 (n.map encVal)]
abbrev immN (N : List (List Val)) : Slot := .one (.imm 1 (N.map encN))
theorem fzN (x : List (List Val)) : ((x.map encN).drop 0).take x.length = x.map encN := by rw [List.drop_zero, List.take_of_length_le (by simp)]
theorem c_l3All (t : VTable) (ht : t.md) (hr : ∀ r ∈ t.rows, (0 ≤ r.ver ∧ r.ver ≤ (t.changes.length : Int))) :
    CallsV Tryz.prog 60 [.agg (encVTable t)] [] (pureQ (immN (t.rows.map (tNow t)))) := by
  have cN := fun r (hm : r ∈ t.rows) => (c_l3Now t r ht (hr r hm) (by have := (ht.rm r hm).1; omega) (ht.rm r hm).2).pure (pureVals _)
  have hrl := ht.r
  have cN := fun i (h : i < t.rows.length) => cN t.rows[i] (List.getElem_mem h)
  obtain ⟨f, hf⟩ : ∃ f, tNow t = f := ⟨_, rfl⟩
  rw [hf] at cN ⊢
  clear hf hr ht
  obtain ⟨first, changes, rows, next⟩ := t
  simp only at cN hrl
  refine pureF_walk hTb Tryz.func60 rfl rfl Tryz.ntmps60 (by simp) ?_
  (conv => whnf)
  refine VL.loopI hTb (fun i => i ≤ rows.length) (fun i => ⟨[(1, .one (.ptr 101 0)), (3, .one (.own 105 0 ((rows.take i).map f).length)), (4, iS i)], [(101, .box (encVTable ⟨first, changes, rows, next⟩)), (105, .arr 31 1 (((rows.take i).map f).map encN))], []⟩) (fun i => rows.length - i) 0 (Nat.zero_le _)
    (wk_to [(101, 101), (105, 105)] rfl rfl rfl ⟨rfl, rfl, rfl, trivial⟩ ⟨rfl, ⟨_, rfl, rfl⟩, rfl, ⟨_, rfl, rfl⟩, trivial⟩) (fun i hi => ?_)
  (conv => whnf)
  refine And.intro (fun h3 => ?_) (fun h3 => ?_)
  · have hil : i < rows.length := by simpa using h3
    have hrw := rowVRow hil
    have hc := cN i hil
    have htk : (rows.take (i + 1)).map f = (rows.take i).map f ++ [f rows[i]] := by rw [List.take_succ_eq_append_getElem hil, List.map_append]; rfl
    have hl : ((rows.take i).map f).length ≤ 1048576 := by simp; omega
    generalize (rows.take i).map f = M at hl htk ⊢
    generalize f rows[i] = x at hc htk ⊢
    generalize rows[i] = ri at hrw hc
    obtain ⟨id, ver, vals⟩ := ri
    (conv => whnf); repeat' ((first | (refine And.intro ?_ ?_ <;> ((try intro h) <;> (try simp only [gS] at h) <;> first | exact absurd h gF | exact absurd h.symm gF | conv => whnf)) | (refine VL.drawS hTb hMix (by kernel_rfl) (by kernel_rfl) (by kernel_rfl) ?_) | (refine Need.mk ?_; kernel_rfl) | (refine DT.op hTb rfl (o_index_imm hTb rfl rfl rfl rfl rfl rfl rfl (by omega) (hrw)) rfl ?_) | (refine DT.pure hTb rfl (o_purF (hc) rfl rfl rfl gQ rfl) ?_) | (refine DT.opk hTb rfl (o_app1 (q := 122) (a := x) hTb rfl rfl rfl rfl rfl rfl rfl rfl rfl rfl rfl rfl (by omega) (by show _ * 24 ≤ _; omega) (by unfold maxLen; omega)) ?_)) <;> conv => whnf)
    exact ⟨i + 1, hil, by omega, wk_to [(101, 101), (122, 105)] rfl rfl rfl ⟨rfl, congrArg (fun n => Slot.one (.own 105 0 n)) (by rw [htk]; simp), gW (by unfold maxLen; omega), trivial⟩ ⟨rfl, ⟨_, rfl, rfl⟩, rfl, ⟨_, rfl, congrArg (fun r : List (List Val) => Ob.arr 31 1 (r.map encN)) htk.symm⟩, trivial⟩⟩
  · have hie : i = rows.length := by simp at h3; omega
    subst hie
    (conv => whnf)
    refine endFz rfl rfl ?_
    show Slot.one (.imm 1 (((((rows.take rows.length).map f).map encN).drop 0).take ((rows.take rows.length).map f).length)) = _
    rw [fzN, List.take_length]
theorem colVs_gt {N : List (List Val)} {k i : Nat} (h : i < N.length) : (colVs N k)[i]'(by rw [colVs_len]; exact h) = (N.getD i []).getD k zVal := by rw [colVs_at h]; simp [h]
theorem dup_yes {N : List (List Val)} {c i j : Nat} (hi : i < N.length) (hj : j < i) (hk : ((N.getD i []).getD c zVal).k ≠ 0) (he : (N.getD j []).getD c zVal = (N.getD i []).getD c zVal) : dupGo [] (colVs N c) = true := by
  rw [dupGo_iff]
  refine ⟨i, by rw [colVs_len]; exact hi, by rw [colVs_gt hi]; exact hk, .inr ⟨j, hj, ?_⟩⟩
  rw [colVs_gt (by omega), colVs_gt hi]; exact he
theorem dup_no {N : List (List Val)} {c : Nat} (h : ∀ i, i < N.length → ∀ j, j < i → ¬ (((N.getD i []).getD c zVal).k ≠ 0 ∧ (N.getD j []).getD c zVal = (N.getD i []).getD c zVal)) : dupGo [] (colVs N c) = false := by
  cases e : dupGo [] (colVs N c) with
  | false => rfl
  | true =>
    exfalso
    rw [dupGo_iff] at e
    obtain ⟨i, hi, hk, h2⟩ := e
    have hin : i < N.length := by rw [colVs_len] at hi; exact hi
    rcases h2 with h2 | ⟨j, hj, h2⟩
    · cases h2
    · rw [colVs_gt hin] at hk h2
      rw [colVs_gt (by omega)] at h2
      exact h i hin j hj ⟨hk, h2⟩
theorem rowN {N : List (List Val)} {i : Nat} (h : i < N.length) : (N.map encN)[((i : Nat) : Int).toNat]? = some (encN (N.getD i [])) := by
  rw [Int.toNat_natCast, List.getElem?_map, List.getElem?_eq_getElem h]; simp [h]
theorem c_l3Twice (L : List Col) (N : List (List Val)) (hl : L.length ≤ 3000000) (hn : N.length ≤ 3000000) (hN : ∀ i, i < N.length → (N.getD i []).length = L.length) :
    CallsV Tryz.prog 59 [colsI L, immN N] [] (pureQ (bS (!onceB L N))) := by
  refine pure_walk hTb Tryz.func59 rfl rfl Tryz.ntmps59 (by simp) ?_
  (conv => whnf)
  refine VL.loopI hTb (fun c => c ≤ L.length ∧ ∀ j, j < c → onceAt L N j = true) (fun c => ⟨[(0, colsI L), (1, immN N), (5, iS c)], [], []⟩) (fun c => L.length - c) 0 ⟨Nat.zero_le _, fun j hj => absurd hj (Nat.not_lt_zero _)⟩
    (wk_to [] rfl rfl rfl ⟨rfl, rfl, rfl, trivial⟩ trivial) (fun c hc => ?_)
  obtain ⟨hc, hd⟩ := hc
  (conv => whnf)
  refine And.intro (fun h2 => ?_) (fun h2 => ?_)
  · have hlt : c < L.length := by simpa using h2
    have hrow := rowCol hlt
    have hce : L[c] = L.getD c (kCol 0) := by simp [hlt]
    rw [hce] at hrow
    generalize hci : L.getD c (kCol 0) = ci at hrow
    obtain ⟨cn, ck, c1, c2, ⟨d1, d2, d3⟩⟩ := ci
    (conv => whnf)
    refine VL.loopI hTb (fun i => i ≤ N.length ∧ ∀ i', i' < i → ∀ j, j < i' → ¬ (((N.getD i' []).getD c zVal).k ≠ 0 ∧ (N.getD j []).getD c zVal = (N.getD i' []).getD c zVal)) (fun i => ⟨[(0, colsI L), (1, immN N), (5, iS c), (6, iS i)], [], []⟩) (fun i => N.length - i) 0 ⟨Nat.zero_le _, fun j hj => absurd hj (Nat.not_lt_zero _)⟩
      (wk_to [] rfl rfl rfl ⟨rfl, rfl, rfl, rfl, trivial⟩ trivial) (fun i hi => ?_)
    obtain ⟨hi, hdi⟩ := hi
    have hon : (c2 = false ∨ N.length ≤ i) → onceAt L N c = true := by
      intro h
      unfold onceAt
      rw [hci]
      rcases h with h | h
      · simp only [h]; rfl
      · rw [dup_no fun i' hi' => hdi i' (by omega), Bool.and_false]; rfl
    have next : onceAt L N c = true → ∀ j, j < c + 1 → onceAt L N j = true := fun h j hj => by
      by_cases hjc : j = c
      · rw [hjc]; exact h
      · exact hd j (by omega)
    (conv => whnf); repeat' ((first | (refine And.intro ?_ ?_ <;> ((try intro h) <;> (try simp only [gS] at h) <;> first | exact absurd h gF | exact absurd h.symm gF | conv => whnf)) | (refine VR.op hTb rfl rfl (o_index_imm hTb rfl rfl rfl rfl rfl rfl rfl (by omega) (hrow)) rfl ?_)) <;> conv => whnf)
    · rename_i q1
      have q2 := h
      have hil : i < N.length := by simpa using q1
      have hri := rowN hil
      have hvi := valAt (l := N.getD i []) (k := c) (by rw [hN i hil]; exact hlt)
      refine VL.loopI hTb (fun j => j ≤ i ∧ ∀ j', j' < j → ¬ (((N.getD i []).getD c zVal).k ≠ 0 ∧ (N.getD j' []).getD c zVal = (N.getD i []).getD c zVal)) (fun j => ⟨[(0, colsI L), (1, immN N), (5, iS c), (6, iS i), (7, iS j)], [], []⟩) (fun j => i - j) 0 ⟨Nat.zero_le _, fun j hj => absurd hj (Nat.not_lt_zero _)⟩
        (wk_to [] rfl rfl rfl ⟨rfl, rfl, rfl, rfl, rfl, trivial⟩ trivial) (fun j hj => ?_)
      obtain ⟨hj, hdj⟩ := hj
      (conv => whnf)
      refine And.intro (fun h3 => ?_) (fun h3 => ?_)
      · have hji : j < i := by simpa using h3
        have hrj := rowN (N := N) (i := j) (by omega)
        have hvj := valAt (l := N.getD j []) (k := c) (by rw [hN j (by omega)]; exact hlt)
        obtain ⟨vi, hvi'⟩ : ∃ v, (N.getD i []).getD c zVal = v := ⟨_, rfl⟩
        obtain ⟨vj, hvj'⟩ : ∃ v, (N.getD j []).getD c zVal = v := ⟨_, rfl⟩
        rw [hvi'] at hvi
        rw [hvj'] at hvj
        have hyes : vi.k ≠ 0 → vj = vi → onceAt L N c = false := by
          intro h1 h2
          unfold onceAt
          rw [dup_yes hil hji (by rw [hvi']; exact h1) (by rw [hvi', hvj']; exact h2), hci]
          simp only [q2]; rfl
        have hstep : ¬ (vi.k ≠ 0 ∧ vj = vi) → ∀ j', j' < j + 1 → ¬ (((N.getD i []).getD c zVal).k ≠ 0 ∧ (N.getD j' []).getD c zVal = (N.getD i []).getD c zVal) := by
          intro h1 j' hj'
          by_cases e : j' = j
          · rw [e, hvi', hvj']; exact h1
          · exact hdj j' (by omega)
        clear hdj hdi hon next
        generalize N.getD i [] = ni at hri hvi hvi' hstep
        generalize N.getD j [] = nj at hrj hvj hvj' hstep
        obtain ⟨v1, v2, v3⟩ := vi
        obtain ⟨u1, u2, u3⟩ := vj
        (conv => whnf); repeat' ((first | (refine And.intro ?_ ?_ <;> ((try intro h) <;> (try simp only [gS] at h) <;> first | exact absurd h gF | exact absurd h.symm gF | conv => whnf)) | (refine VL.drawS hTb hMix (by kernel_rfl) (by kernel_rfl) (by kernel_rfl) ?_) | (refine Need.mk ?_; kernel_rfl) | (refine DT.op hTb rfl (o_index_imm hTb rfl rfl rfl rfl rfl rfl rfl (by omega) (hri)) rfl ?_) | (refine DT.op hTb rfl (o_index_imm hTb rfl rfl rfl rfl rfl rfl rfl (by omega) (hvi)) rfl ?_) | (refine DT.op hTb rfl (o_index_imm hTb rfl rfl rfl rfl rfl rfl rfl (by omega) (hrj)) rfl ?_) | (refine DT.op hTb rfl (o_index_imm hTb rfl rfl rfl rfl rfl rfl rfl (by omega) (hvj)) rfl ?_)) <;> conv => whnf)
        · rename_i p1
          refine congrArg bS ?_
          rw [onceB_not hlt (hyes (by simpa using p1) (qV_iff.1 (show q_Val ⟨v1, v2, v3⟩ ⟨u1, u2, u3⟩ = true from h)).symm)]; rfl
        · rename_i p1
          refine ⟨j + 1, ⟨hji, hstep fun hc2 => ?_⟩, by show i - (j + 1) < i - j; omega, wk_to [] rfl rfl rfl ⟨rfl, rfl, rfl, rfl, gW (by unfold maxLen; omega), trivial⟩ trivial⟩
          have hq : q_Val ⟨v1, v2, v3⟩ ⟨u1, u2, u3⟩ = false := h
          rw [← hc2.2, qV_refl] at hq
          cases hq
        · rename_i p1
          refine ⟨j + 1, ⟨hji, hstep fun hc2 => ?_⟩, by show i - (j + 1) < i - j; omega, wk_to [] rfl rfl rfl ⟨rfl, rfl, rfl, rfl, gW (by unfold maxLen; omega), trivial⟩ trivial⟩
          exact hc2.1 (by simpa using p1)
      · have hje : j = i := by simp at h3; omega
        (conv => whnf)
        refine ⟨i + 1, ⟨hil, fun i' hi' => ?_⟩, by show N.length - (i + 1) < N.length - i; omega, wk_to [] rfl rfl rfl ⟨rfl, rfl, rfl, gW (by unfold maxLen; omega), trivial⟩ trivial⟩
        by_cases e : i' = i
        · rw [e]; rw [hje] at hdj; exact hdj
        · exact hdi i' (by omega)
    · exact ⟨c + 1, ⟨hlt, next (hon (.inl h))⟩, by show L.length - (c + 1) < L.length - c; omega, wk_to [] rfl rfl rfl ⟨rfl, rfl, gW (by unfold maxLen; omega), trivial⟩ trivial⟩
    · rename_i q1
      exact ⟨c + 1, ⟨hlt, next (hon (.inr (by simp at q1; omega)))⟩, by show L.length - (c + 1) < L.length - c; omega, wk_to [] rfl rfl rfl ⟨rfl, rfl, gW (by unfold maxLen; omega), trivial⟩ trivial⟩
  · have hce : c = L.length := by simp at h2; omega
    subst hce
    (conv => whnf)
    refine congrArg bS ?_
    rw [onceB_all hd]; rfl
theorem mdv_ok' {l : List Val} (h : mdVals l) : ∀ v ∈ l, v.t.size ≤ maxLen := fun v hv => by have : v.t.size ≤ 1048576 := h v hv; unfold maxLen; omega
def prevId (rows : List VRow) (i : Nat) : Int := if i = 0 then 0 else (rows.getD (i - 1) ⟨0, 0, []⟩).id
theorem c_l3Stored (t : VTable) (ht : t.md) : CallsV Tryz.prog 58 [.agg (encVTable t)] [] (pureQ (bS (stGo t 0 t.rows))) := by
  have hfc := ht.fc
  have hrl := ht.r
  have cL := c_l3Last t ht
  have hml : ((t.changes.map encChange).length : Int) = t.changes.length := by simp
  refine pure_walk hTb Tryz.func58 rfl rfl Tryz.ntmps58 (by simp) ?_
  (conv => whnf); repeat' ((first | (refine VR.pure hTb rfl rfl (o_purF (cL) rfl rfl rfl gQ rfl) ?_)) <;> conv => whnf)
  refine VL.loopI hTb (fun i => i ≤ t.rows.length ∧ stGo t 0 t.rows = stGo t (prevId t.rows i) (t.rows.drop i) ∧ (0 < i → 1 ≤ prevId t.rows i)) (fun i => ⟨[(1, .one (.ptr 101 0)), (3, colsI (tL t)), (4, iS i)], [(101, .box (encVTable t))], []⟩) (fun i => t.rows.length - i) 0 ⟨Nat.zero_le _, rfl, fun h => absurd h (Nat.lt_irrefl _)⟩
    (wk_to [(101, 101)] rfl rfl rfl ⟨rfl, rfl, rfl, trivial⟩ ⟨rfl, ⟨_, rfl, rfl⟩, trivial⟩) (fun i hi => ?_)
  obtain ⟨hi, hst, hp⟩ := hi
  (conv => whnf)
  refine And.intro (fun h2 => ?_) (fun h2 => ?_)
  · have hil : i < t.rows.length := by simpa using h2
    have hrw := rowVRow hil
    have hrm := ht.rm _ (List.getElem_mem hil)
    rw [stGo_drop hil] at hst
    have hnx : prevId t.rows (i + 1) = t.rows[i].id := by simp [prevId, hil]
    generalize t.rows[i] = r at hrw hrm hst hnx
    have hprev : 0 < i → 0 ≤ IntKind.i64.wrap ((i : Int) - 1) ∧ (t.rows.map encVRow)[(IntKind.i64.wrap ((i : Int) - 1)).toNat]? = some (encVRow (t.rows.getD (i - 1) ⟨0, 0, []⟩)) := by
      intro h0
      have e : IntKind.i64.wrap ((i : Int) - 1) = ((i - 1 : Nat) : Int) := by rw [IntKind.wrap_i64]; omega
      rw [e, Int.toNat_natCast, List.getElem?_map]
      exact ⟨by omega, by simp [show i - 1 < t.rows.length by omega]⟩
    have hpid : 0 < i → (t.rows.getD (i - 1) ⟨0, 0, []⟩).id = prevId t.rows i := fun h0 => by unfold prevId; rw [if_neg (by omega)]
    have hcase : (i = 0 ∧ prevId t.rows i = 0) ∨ (0 < i ∧ 1 ≤ prevId t.rows i ∧ (t.rows.getD (i - 1) ⟨0, 0, []⟩).id = prevId t.rows i) := by
      rcases Nat.eq_zero_or_pos i with h0 | h0
      · exact .inl ⟨h0, by rw [h0]; rfl⟩
      · exact .inr ⟨h0, hp h0, hpid h0⟩
    generalize prevId t.rows i = last at hst hp hpid hcase
    generalize t.rows.getD (i - 1) ⟨0, 0, []⟩ = pr at hprev hpid hcase
    (conv => whnf); repeat' ((first | (refine And.intro ?_ ?_ <;> ((try intro h) <;> (try simp only [gS] at h) <;> first | exact absurd h gF | exact absurd h.symm gF | conv => whnf)) | (refine VL.drawS hTb hMix (by kernel_rfl) (by kernel_rfl) (by kernel_rfl) ?_) | (refine Need.mk ?_; kernel_rfl) | (refine VR.op hTb rfl rfl (o_index_imm hTb rfl rfl rfl rfl rfl rfl rfl (by omega) (hrw)) rfl ?_) | (refine DT.op hTb rfl (o_index_imm hTb rfl rfl rfl rfl rfl rfl rfl (hprev (by omega)).1 (hprev (by omega)).2) rfl ?_)) <;> conv => whnf)
    all_goals try (refine congrArg bS ?_; rw [hst, show idOk t last r = false from by unfold idOk; rw [decide_eq_false_iff_not]; omega]; rfl)
    all_goals
      have hv : 0 ≤ r.ver ∧ r.ver ≤ (t.changes.length : Int) := by omega
      have hid : idOk t last r = true := by unfold idOk; rw [decide_eq_true_iff]; omega
      have cS := c_l3Shape t r.ver ht hv
      have cN := (c_l3Now t r ht hv (by omega) hrm.2).pure (pureVals _)
      have r1 := c_specRowOk (tSh t r.ver.toNat) r.vals (by have h1 := tSh_len t r.ver.toNat; unfold maxLen; omega) (tSh_md ht _).ok (mdv_ok' hrm.2)
      have r2 := c_specRowOk (tL t) (tNow t r) (by have := tL_len t; unfold maxLen; omega) (tL_md ht).ok (mdv_ok' (tNow_md ht hrm.2))
      have hrs : rowSt t r = (rowOk (tSh t r.ver.toNat) r.vals && rowOk (tL t) (tNow t r)) := rfl
      generalize rowOk (tSh t r.ver.toNat) r.vals = b1 at r1 hrs
      generalize rowOk (tL t) (tNow t r) = b2 at r2 hrs
      rw [hid, hrs] at hst
      cases b1 <;> cases b2 <;> (conv => whnf); repeat' ((first | (refine And.intro ?_ ?_ <;> ((try intro h) <;> (try simp only [gS] at h) <;> first | exact absurd h gF | exact absurd h.symm gF | conv => whnf)) | (refine Need.mk ?_; kernel_rfl) | (refine DT.pure hTb rfl (o_purF (cS) rfl rfl rfl gQ rfl) ?_) | (refine DT.pure hTb rfl (o_purF (cN) rfl rfl rfl gQ rfl) ?_) | (refine DT.pure hTb rfl (o_purN (r1) rfl rfl rfl gQ rfl) ?_) | (refine DT.pure hTb rfl (o_purN (r2) rfl rfl rfl gQ rfl) ?_)) <;> conv => whnf)
      all_goals first
        | (refine congrArg bS ?_; rw [hst]; rfl)
        | exact ⟨i + 1, ⟨hil, by rw [hst, hnx]; rfl, fun _ => by rw [hnx]; omega⟩, by show t.rows.length - (i + 1) < t.rows.length - i; omega, wk_to [(101, 101)] rfl rfl rfl ⟨rfl, rfl, gW (by unfold maxLen; omega), trivial⟩ ⟨rfl, ⟨_, rfl, rfl⟩, trivial⟩⟩
  · have hie : i = t.rows.length := by simp at h2; omega
    (conv => whnf)
    refine congrArg bS ?_
    rw [hst, stGo_end (by omega)]
theorem tabOk_sh {t : VTable} (h : (shAll t.first t.changes).2 = false) : tabOk t = false := by unfold tabOk; rw [h]; rfl
theorem tabOk_c8 {t : VTable} (h : ¬ t.changes.length ≤ 8) : tabOk t = false := by unfold tabOk; rw [decide_eq_false h]; simp
theorem tabOk_r8 {t : VTable} (h : ¬ t.rows.length ≤ 8) : tabOk t = false := by unfold tabOk; rw [decide_eq_false h]; simp
theorem tabOk_nx {t : VTable} (h : ¬ (1 ≤ t.next ∧ t.next ≤ 60)) : tabOk t = false := by unfold tabOk; rw [decide_eq_false h]; simp
theorem tabOk_st {t : VTable} (h : stGo t 0 t.rows = false) : tabOk t = false := by unfold tabOk; rw [h]; simp
theorem tabOk_yes {t : VTable} (h0 : (shAll t.first t.changes).2 = true) (h1 : t.changes.length ≤ 8) (h2 : t.rows.length ≤ 8) (h3 : 1 ≤ t.next ∧ t.next ≤ 60) (h4 : stGo t 0 t.rows = true) : tabOk t = onceB (tL t) (t.rows.map (tNow t)) := by
  unfold tabOk; rw [h0, decide_eq_true h1, decide_eq_true h2, decide_eq_true h3, h4]; rfl
theorem getD_map {t : VTable} {i : Nat} (h : i < (t.rows.map (tNow t)).length) : (t.rows.map (tNow t)).getD i [] = tNow t (t.rows[i]'(by simpa using h)) := by
  have h2 : i < t.rows.length := by simpa using h
  simp [h2]
theorem c_specTableOk (t : VTable) (ht : t.md) : CallsV Tryz.prog 18 [.agg (encVTable t)] [] (pureQ (bS (tabOk t))) := by
  have hfc := ht.fc
  have hrl := ht.r
  have cA := (c_specShapeAll t.first t.changes (by omega) ht.fm ht.cm).pure (pureSh _)
  have cS := c_l3Stored t ht
  have cL := c_l3Last t ht
  have hml : ((t.changes.map encChange).length : Int) = t.changes.length := by simp
  have hmr : ((t.rows.map encVRow).length : Int) = t.rows.length := by simp
  have hLl := tL_len t
  obtain ⟨b, hb⟩ : ∃ b, stGo t 0 t.rows = b := ⟨_, rfl⟩
  obtain ⟨a, ha⟩ : ∃ a, (shAll t.first t.changes).2 = a := ⟨_, rfl⟩
  have hsh : shAll t.first t.changes = (tL t, a) := by unfold tL; rw [← ha]
  rw [hsh] at cA
  rw [hb] at cS
  refine pure_walk hTb Tryz.func18 rfl rfl Tryz.ntmps18 (by simp) ?_
  cases a with
  | false =>
    cases b <;> (conv => whnf); repeat' ((first | (refine And.intro ?_ ?_ <;> ((try intro h) <;> (try simp only [gS] at h) <;> first | exact absurd h gF | exact absurd h.symm gF | conv => whnf)) | (refine VR.pure hTb rfl rfl (o_purF (cA) rfl rfl rfl gQ rfl) ?_)) <;> conv => whnf)
    all_goals exact congrArg bS (tabOk_sh ha).symm
  | true =>
    cases b with
    | false =>
      (conv => whnf); repeat' ((first | (refine And.intro ?_ ?_ <;> ((try intro h) <;> (try simp only [gS] at h) <;> first | exact absurd h gF | exact absurd h.symm gF | conv => whnf)) | (refine VR.pure hTb rfl rfl (o_purF (cA) rfl rfl rfl gQ rfl) ?_) | (refine VR.pure hTb rfl rfl (o_purN (cS) rfl rfl rfl gQ rfl) ?_)) <;> conv => whnf)
      all_goals refine congrArg bS ?_
      all_goals rw [tabOk_st hb]
    | true =>
      have hat := stGo_at hb
      have cAll := c_l3All t ht fun r hr => by
        obtain ⟨i, hi, rfl⟩ := List.getElem_of_mem hr
        exact (hat i hi).2.2.1
      have hN : ∀ i, i < (t.rows.map (tNow t)).length → ((t.rows.map (tNow t)).getD i []).length = (tL t).length := by
        intro i hi
        have h2 : i < t.rows.length := by simpa using hi
        rw [getD_map hi]
        have h3 := (hat i h2).2.2.2.1
        unfold rowSt at h3
        rw [Bool.and_eq_true] at h3
        exact (tNow_go ha (rowOk_len h3.1)).2
      have cT := c_l3Twice (tL t) (t.rows.map (tNow t)) (by omega) (by simp; omega) hN
      (conv => whnf); repeat' ((first | (refine And.intro ?_ ?_ <;> ((try intro h) <;> (try simp only [gS] at h) <;> first | exact absurd h gF | exact absurd h.symm gF | conv => whnf)) | (refine VL.drawS hTb hMix (by kernel_rfl) (by kernel_rfl) (by kernel_rfl) ?_) | (refine Need.mk ?_; kernel_rfl) | (refine VR.pure hTb rfl rfl (o_purF (cA) rfl rfl rfl gQ rfl) ?_) | (refine VR.pure hTb rfl rfl (o_purN (cS) rfl rfl rfl gQ rfl) ?_) | (refine DT.pure hTb rfl (o_purF (cL) rfl rfl rfl gQ rfl) ?_) | (refine DT.pure hTb rfl (o_purF (cAll) rfl rfl rfl gQ rfl) ?_) | (refine DT.pure hTb rfl (o_purN (cT) rfl rfl rfl gQ rfl) ?_)) <;> conv => whnf)
      all_goals refine congrArg bS ?_
      all_goals first
        | (rw [tabOk_c8 (by omega)]; done)
        | (rw [tabOk_r8 (by omega)]; done)
        | (rw [tabOk_nx (by omega)]; done)
        | (rw [tabOk_yes ha (by omega) (by omega) ⟨by omega, by omega⟩ hb, Bool.not_not]; done)
theorem c_implTableOk (t : VTable) (ht : t.md) : CallsV Tryz.prog 27 [.agg (encVTable t)] [] (pureQ (bS (tabOk t))) := by
  have hfc := ht.fc
  have hrl := ht.r
  have cA := (c_implShapeAll t.first t.changes (by omega) ht.fm ht.cm).pure (pureSh _)
  have hml : ((t.changes.map encChange).length : Int) = t.changes.length := by simp
  have hmr : ((t.rows.map encVRow).length : Int) = t.rows.length := by simp
  have hLl := tL_len t
  obtain ⟨a, ha⟩ : ∃ a, (shAll t.first t.changes).2 = a := ⟨_, rfl⟩
  have hsh : shAll t.first t.changes = (tL t, a) := by unfold tL; rw [← ha]
  rw [hsh] at cA
  have cI := c_in t.next 1 60
  obtain ⟨b, hb⟩ : ∃ b, (decide (1 ≤ t.next) && decide (t.next ≤ 60)) = b := ⟨_, rfl⟩
  rw [hb] at cI
  refine pure_walk hTb Tryz.func27 rfl rfl Tryz.ntmps27 (by simp) ?_
  cases a with
  | false =>
    cases b <;> (conv => whnf); repeat' ((first | (refine And.intro ?_ ?_ <;> ((try intro h) <;> (try simp only [gS] at h) <;> first | exact absurd h gF | exact absurd h.symm gF | conv => whnf)) | (refine VR.pure hTb rfl rfl (o_purF (cA) rfl rfl rfl gQ rfl) ?_)) <;> conv => whnf)
    all_goals exact congrArg bS (tabOk_sh ha).symm
  | true =>
  cases b with
  | false =>
    (conv => whnf); repeat' ((first | (refine And.intro ?_ ?_ <;> ((try intro h) <;> (try simp only [gS] at h) <;> first | exact absurd h gF | exact absurd h.symm gF | conv => whnf)) | (refine VR.pure hTb rfl rfl (o_purF (cA) rfl rfl rfl gQ rfl) ?_) | (refine VR.pure hTb rfl rfl (o_purN (cI) rfl rfl rfl gQ rfl) ?_)) <;> conv => whnf)
    all_goals refine congrArg bS ?_
    all_goals rw [tabOk_nx (fun h => by rw [decide_eq_true h.1, decide_eq_true h.2] at hb; cases hb)]
  | true =>
  have hnx : 1 ≤ t.next ∧ t.next ≤ 60 := by simpa using hb
  (conv => whnf); repeat' ((first | (refine And.intro ?_ ?_ <;> ((try intro h) <;> (try simp only [gS] at h) <;> first | exact absurd h gF | exact absurd h.symm gF | conv => whnf)) | (refine VR.pure hTb rfl rfl (o_purF (cA) rfl rfl rfl gQ rfl) ?_) | (refine VR.pure hTb rfl rfl (o_purN (cI) rfl rfl rfl gQ rfl) ?_)) <;> conv => whnf)
  all_goals try (refine congrArg bS ?_; first | (rw [tabOk_c8 (by omega)]; done) | (rw [tabOk_r8 (by omega)]; done))
  have q8 : t.changes.length ≤ 8 ∧ t.rows.length ≤ 8 := by omega
  refine VL.loopI hTb (fun x : Nat × Int => x.1 ≤ t.rows.length ∧ stGo t 0 t.rows = stGo t x.2 (t.rows.drop x.1) ∧ (0 ≤ x.2 ∧ x.2 ≤ 60) ∧ ∀ j (h : j < t.rows.length), j < x.1 → (0 ≤ t.rows[j].ver ∧ t.rows[j].ver ≤ (t.changes.length : Int)) ∧ t.rows[j].vals.length = (tSh t t.rows[j].ver.toNat).length)
    (fun x => ⟨[(1, .one (.ptr 101 0)), (3, colsI (tL t)), (5, iS x.2), (39, vrowsI t.rows), (40, iS ((t.rows.map encVRow).length : Nat)), (41, iS x.1)], [(101, .box (encVTable t))], []⟩) (fun x => t.rows.length - x.1) (0, 0) ⟨Nat.zero_le _, rfl, ⟨Int.le_refl _, by decide⟩, fun j _ h => absurd h (Nat.not_lt_zero _)⟩
    (wk_to [(101, 101)] rfl rfl rfl ⟨rfl, rfl, rfl, rfl, rfl, rfl, trivial⟩ ⟨rfl, ⟨_, rfl, rfl⟩, trivial⟩) (fun x hx => ?_)
  obtain ⟨i, last⟩ := x
  obtain ⟨hi, hst, hla, hall⟩ := hx
  simp only at hi hst hla hall
  (conv => whnf)
  refine And.intro (fun h2 => ?_) (fun h2 => ?_)
  · have hil : i < t.rows.length := by simpa using h2
    have hrw := rowVRow hil
    have hrm := ht.rm _ (List.getElem_mem hil)
    rw [stGo_drop hil] at hst
    have hall2 : ∀ r : VRow, t.rows[i] = r → (0 ≤ r.ver ∧ r.ver ≤ (t.changes.length : Int)) → r.vals.length = (tSh t r.ver.toNat).length → ∀ j (h : j < t.rows.length), j < i + 1 → (0 ≤ t.rows[j].ver ∧ t.rows[j].ver ≤ (t.changes.length : Int)) ∧ t.rows[j].vals.length = (tSh t t.rows[j].ver.toNat).length := by
      intro r hr k1 k2 j hj hj2
      by_cases e : j = i
      · subst e; rw [hr]; exact ⟨k1, k2⟩
      · exact hall j hj (by omega)
    replace hall2 := hall2 _ rfl
    generalize t.rows[i] = r at hrw hrm hst hall2
    have w1 : IntKind.i64.wrap (last + 1) = last + 1 := by rw [IntKind.wrap_i64]; omega
    have w2 : IntKind.i64.wrap (t.next - 1) = t.next - 1 := by rw [IntKind.wrap_i64]; omega
    have c1 := c_in r.id (IntKind.i64.wrap (last + 1)) (IntKind.i64.wrap (t.next - 1))
    have c2 := c_in r.ver 0 ((t.changes.map encChange).length : Nat)
    obtain ⟨b1, hb1⟩ : ∃ b, (decide (IntKind.i64.wrap (last + 1) ≤ r.id) && decide (r.id ≤ IntKind.i64.wrap (t.next - 1))) = b := ⟨_, rfl⟩
    obtain ⟨b2, hb2⟩ : ∃ b, (decide (0 ≤ r.ver) && decide (r.ver ≤ ((t.changes.map encChange).length : Nat))) = b := ⟨_, rfl⟩
    rw [hb1] at c1
    rw [hb2] at c2
    rw [w1, w2] at hb1
    have hid : idOk t last r = (b1 && b2) := by
      rw [← hb1, ← hb2, List.length_map]
      unfold idOk
      simp only [Bool.decide_and, Bool.and_assoc]
    rw [hid] at hst
    cases b1 with
    | false =>
      cases b2 <;> (conv => whnf); repeat' ((first | (refine And.intro ?_ ?_ <;> ((try intro h) <;> (try simp only [gS] at h) <;> first | exact absurd h gF | exact absurd h.symm gF | conv => whnf)) | (refine VR.op hTb rfl rfl (o_index_imm hTb rfl rfl rfl rfl rfl rfl rfl (by omega) (hrw)) rfl ?_) | (refine VR.pure hTb rfl rfl (o_purN (c1) rfl rfl rfl gQ rfl) ?_)) <;> conv => whnf)
      all_goals exact congrArg bS (tabOk_st hst).symm
    | true =>
    cases b2 with
    | false =>
      (conv => whnf); repeat' ((first | (refine And.intro ?_ ?_ <;> ((try intro h) <;> (try simp only [gS] at h) <;> first | exact absurd h gF | exact absurd h.symm gF | conv => whnf)) | (refine VR.op hTb rfl rfl (o_index_imm hTb rfl rfl rfl rfl rfl rfl rfl (by omega) (hrw)) rfl ?_) | (refine VR.pure hTb rfl rfl (o_purN (c1) rfl rfl rfl gQ rfl) ?_) | (refine VR.pure hTb rfl rfl (o_purN (c2) rfl rfl rfl gQ rfl) ?_)) <;> conv => whnf)
      all_goals exact congrArg bS (tabOk_st hst).symm
    | true =>
    have hv : 0 ≤ r.ver ∧ r.ver ≤ (t.changes.length : Int) := by simpa using hb2
    have hidr : last + 1 ≤ r.id ∧ r.id ≤ t.next - 1 := by simpa using hb1
    obtain ⟨h1, h3, h4, h5, h6, h7⟩ := tSh_cut ha r.ver.toNat
    have hl1 := tSh_len t r.ver.toNat
    have cC := (c_changes t.first (t.changes.take r.ver.toNat) (by simp; omega) ht.fm (ht.cm.take _)).pure (pureSh _)
    rw [h3] at cC
    replace cC : CallsV _ _ _ _ (pureQ (shI (tSh t r.ver.toNat, true))) := cC
    have r1 := c_implrowOk (tSh t r.ver.toNat) r.vals (by unfold maxLen; omega) (mdv_ok' hrm.2)
    have r2 := c_implrowOk (tL t) (tNow t r) (by unfold maxLen; omega) (mdv_ok' (tNow_md ht hrm.2))
    have hrs : rowSt t r = (rowIn (tSh t r.ver.toNat) r.vals && rowIn (tL t) (tNow t r)) := by unfold rowSt; rw [rowOk_in h5, rowOk_in h7]
    have hln : rowIn (tSh t r.ver.toNat) r.vals = true → r.vals.length = (tSh t r.ver.toNat).length := rowIn_ln
    obtain ⟨k, hk⟩ : ∃ k : Nat, r.ver = k := ⟨r.ver.toNat, by omega⟩
    have hkt : r.ver.toNat = k := by omega
    have hkl : k ≤ t.changes.length := by omega
    have cN := fun h => (c_tNow t r ht ha hv (hln h) hrm.2).pure (pureVals _)
    generalize rowIn (tSh t r.ver.toNat) r.vals = b3 at r1 hrs hln cN
    generalize rowIn (tL t) (tNow t r) = b4 at r2 hrs
    rw [hrs] at hst
    have tail : last + 1 ≤ r.id := hidr.1
    cases b3 with
    | false =>
      (conv => whnf); repeat' ((first | (refine And.intro ?_ ?_ <;> ((try intro h) <;> (try simp only [gS] at h) <;> first | exact absurd h gF | exact absurd h.symm gF | conv => whnf)) | (refine VL.drawS hTb hMix (by kernel_rfl) (by kernel_rfl) (by kernel_rfl) ?_) | (refine Need.mk ?_; kernel_rfl) | (refine VR.op hTb rfl rfl (o_index_imm hTb rfl rfl rfl rfl rfl rfl rfl (by omega) (hrw)) rfl ?_) | (refine VR.pure hTb rfl rfl (o_purN (c1) rfl rfl rfl gQ rfl) ?_) | (refine VR.pure hTb rfl rfl (o_purN (c2) rfl rfl rfl gQ rfl) ?_) | (refine DT.op hTb rfl (o_slice_imm (n1 := 0) (n2 := r.ver.toNat) (rows' := (t.changes.take r.ver.toNat).map encChange) hTb rfl rfl rfl rfl rfl rfl bnd_none (bnd_wr rfl (by omega)) (Nat.zero_le _) (by simp; omega) (by rw [List.drop_zero, Nat.sub_zero, List.map_take])) rfl ?_) | (refine DT.pure hTb rfl (o_purF (cC) rfl rfl rfl gQ rfl) ?_) | (refine VR.pure hTb rfl rfl (o_purN (r1) rfl rfl rfl gQ rfl) ?_)) <;> conv => whnf)
      all_goals exact congrArg bS (tabOk_st hst).symm
    | true =>
      have cN := cN rfl
      cases b4 <;> (conv => whnf); repeat' ((first | (refine And.intro ?_ ?_ <;> ((try intro h) <;> (try simp only [gS] at h) <;> first | exact absurd h gF | exact absurd h.symm gF | conv => whnf)) | (refine VL.drawS hTb hMix (by kernel_rfl) (by kernel_rfl) (by kernel_rfl) ?_) | (refine Need.mk ?_; kernel_rfl) | (refine VR.op hTb rfl rfl (o_index_imm hTb rfl rfl rfl rfl rfl rfl rfl (by omega) (hrw)) rfl ?_) | (refine VR.pure hTb rfl rfl (o_purN (c1) rfl rfl rfl gQ rfl) ?_) | (refine VR.pure hTb rfl rfl (o_purN (c2) rfl rfl rfl gQ rfl) ?_) | (refine DT.op hTb rfl (o_slice_imm (n1 := 0) (n2 := r.ver.toNat) (rows' := (t.changes.take r.ver.toNat).map encChange) hTb rfl rfl rfl rfl rfl rfl bnd_none (bnd_wr rfl (by omega)) (Nat.zero_le _) (by simp; omega) (by rw [List.drop_zero, Nat.sub_zero, List.map_take])) rfl ?_) | (refine DT.pure hTb rfl (o_purF (cC) rfl rfl rfl gQ rfl) ?_) | (refine VR.pure hTb rfl rfl (o_purN (r1) rfl rfl rfl gQ rfl) ?_) | (refine VR.pure hTb rfl rfl (o_purF (cN) rfl rfl rfl gQ rfl) ?_) | (refine VR.pure hTb rfl rfl (o_purN (r2) rfl rfl rfl gQ rfl) ?_)) <;> conv => whnf)
      · exact congrArg bS (tabOk_st hst).symm
      · exact ⟨(i + 1, r.id), ⟨hil, hst, by simp only; omega, hall2 hv (hln rfl)⟩, by show t.rows.length - (i + 1) < t.rows.length - i; omega, wk_to [(101, 101)] rfl rfl rfl ⟨rfl, rfl, rfl, rfl, rfl, gW (by unfold maxLen; omega), trivial⟩ ⟨rfl, ⟨_, rfl, rfl⟩, trivial⟩⟩
  · have hie : i = t.rows.length := by simp at h2; omega
    rw [stGo_end (by omega)] at hst
    have cO := c_tOnce t ht ha fun r hr => by
      obtain ⟨j, hj, rfl⟩ := List.getElem_of_mem hr
      exact hall j hj (by omega)
    rw [← tabOk_yes ha q8.1 q8.2 hnx hst] at cO
    (conv => whnf); repeat' ((first | (refine VR.pure hTb rfl rfl (o_purN (cO) rfl rfl rfl gQ rfl) ?_)) <;> conv => whnf)
    rfl
end Go.Vl
