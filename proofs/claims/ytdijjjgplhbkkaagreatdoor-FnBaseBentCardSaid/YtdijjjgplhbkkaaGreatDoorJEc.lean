/- Contracts: rows of values: how great, turned, alike, sound; the law on a row. Plain laws: names among columns. Laws: columns are found by name. Contracts: copies of lists, things taken out of them. Contracts of Go's library, taken over from what is laid of the shelf. Contracts: a number in decimals, as the reference writes it. Contracts: a value's text. Contracts: a text as a number, as the reference reads it. The plain law of numerals: what the reference reads as a number is that number's own numeral. Contracts: a text as a number, as the program reads it. Contracts: a value as one of another kind. Contracts: a change of columns: what it names. -/
import Derived.Test.YtdijjjgplhbkkaaGreatDoorJEa
import Derived.Test.YtdijjjgplhbkkaaGreatDoorJEb
import Derived.Test.YtdijjjgplhbkkaaGreatDoorWi
import Derived.Test.YtdijjjgplhbkkaaGreatDoorSh
import Derived.Lib.ItoaLen
set_option linter.unusedSimpArgs false
set_option linter.unusedVariables false
set_option linter.unnecessarySimpa false
set_option maxRecDepth 100000
set_option maxHeartbeats 16000000

namespace Go.Vl
open Go Go.RowKit Go.Proofs
theorem rowv_at {cs : List Val} {i : Nat} (h : i < cs.length) : (cs.map encVal)[((i : Nat) : Int).toNat]? = some (encVal cs[i]) := by
  rw [Int.toNat_natCast, List.getElem?_map, List.getElem?_eq_getElem h]; rfl
def cellOk (c : Col) (v : Val) : Bool := valOk v && (v.k == 0 || v.k == c.kind) && !(c.need && v.k == 0)
def rowGo : List Col → List Val → Bool
  | c :: cs, v :: vs => cellOk c v && rowGo cs vs
  | [], [] => true
  | _, _ => false
theorem rowGo_step {cs : List Col} {vs : List Val} {i : Nat} (h1 : i < cs.length) (h2 : i < vs.length) : rowGo (cs.drop i) (vs.drop i) = (cellOk cs[i] vs[i] && rowGo (cs.drop (i + 1)) (vs.drop (i + 1))) := by
  rw [List.drop_eq_getElem_cons h1, List.drop_eq_getElem_cons h2, rowGo]
theorem rowGo_end {cs : List Col} {vs : List Val} {i : Nat} (h1 : cs.length ≤ i) (h2 : vs.length ≤ i) : rowGo (cs.drop i) (vs.drop i) = true := by
  rw [List.drop_of_length_le h1, List.drop_of_length_le h2, rowGo]
def rowIn (cs : List Col) (vs : List Val) : Bool := if vs.length ≠ cs.length then false else rowGo cs vs
def rowOk (cs : List Col) (vs : List Val) : Bool := shapeOk cs && rowIn cs vs
theorem c_specRowOk (cs : List Col) (vs : List Val) (hl : cs.length ≤ maxLen) (ho : ∀ c ∈ cs, c.ok) (hv : ∀ v ∈ vs, v.t.size ≤ maxLen) : CallsV Tryz.prog 127 [colsI cs, valsI vs] [] (pureQ (bS (rowOk cs vs))) := by
  refine pure_walk hTb Tryz.func127 rfl rfl Tryz.ntmps127 (by simp) ?_
  (conv => whnf); repeat' (first
    | (refine And.intro ?_ ?_ <;> ((try intro h) <;> (try simp only [Bool.not_true, Bool.not_false] at h) <;> first | exact absurd h gF | exact absurd h.symm gF | conv => whnf))
    | (refine VL.drawS hTb hMix (by kernel_rfl) (by kernel_rfl) (by kernel_rfl) ?_; conv => whnf)
    | (refine Need.mk ?_; kernel_rfl) | (refine Need.mk ⟨rfl, ?_⟩; decide)
    | (refine VR.pure hTb rfl rfl (o_purN (c_specShapeOk cs hl ho) rfl rfl rfl gQ rfl) ?_; conv => whnf)
    | (refine DT.pure hTb rfl (o_purN (c_specShapeOk cs hl ho) rfl rfl rfl gQ rfl) ?_; conv => whnf))
  · have h1 : shapeOk cs = true := by simp_all
    have h3 : vs.length ≠ cs.length := by simp at h; omega
    simp only [bS, rowOk, rowIn, h1, if_pos h3, Bool.and_false]
  · have h1 : shapeOk cs = true := by simp_all
    have h3 : vs.length = cs.length := by simp at h; omega
    have h4 : rowOk cs vs = rowGo cs vs := by simp [rowOk, rowIn, h1, h3]
    clear h
    refine VL.loopI hTb (fun i => i ≤ vs.length ∧ rowGo cs vs = rowGo (cs.drop i) (vs.drop i)) (fun i => ⟨[(0, colsI cs), (1, valsI vs), (5, iS i)], [], []⟩) (fun i => vs.length - i) 0 ⟨Nat.zero_le _, rfl⟩
      (wk_to [] rfl rfl rfl ⟨rfl, rfl, rfl, trivial⟩ trivial) (fun i hi => ?_)
    obtain ⟨hi, hf⟩ := hi
    (conv => whnf)
    refine And.intro (fun h2 => ?_) (fun h2 => ?_)
    · have hlt : i < vs.length := by simpa using h2
      have hlt2 : i < cs.length := by omega
      have hrow := rowv_at hlt
      have hrow2 := row_at hlt2
      (conv => whnf); repeat' (first
    | (refine And.intro ?_ ?_ <;> ((try intro h) <;> (try simp only [Bool.not_true, Bool.not_false] at h) <;> first | exact absurd h gF | exact absurd h.symm gF | conv => whnf))
    | (refine VL.drawS hTb hMix (by kernel_rfl) (by kernel_rfl) (by kernel_rfl) ?_; conv => whnf)
    | (refine Need.mk ?_; kernel_rfl) | (refine Need.mk ⟨rfl, ?_⟩; decide)
    | (refine VR.op hTb rfl rfl (o_index_imm hTb rfl rfl rfl rfl rfl rfl rfl (Int.natCast_nonneg _) ( hrow)) rfl ?_; conv => whnf)
    | (refine DT.op hTb rfl (o_index_imm hTb rfl rfl rfl rfl rfl rfl rfl (Int.natCast_nonneg _) ( hrow)) rfl ?_; conv => whnf)
    | (refine VR.op hTb rfl rfl (o_index_imm hTb rfl rfl rfl rfl rfl rfl rfl (Int.natCast_nonneg _) ( hrow2)) rfl ?_; conv => whnf)
    | (refine DT.op hTb rfl (o_index_imm hTb rfl rfl rfl rfl rfl rfl rfl (Int.natCast_nonneg _) ( hrow2)) rfl ?_; conv => whnf)
    | (refine VR.pure hTb rfl rfl (o_purN (c_specValOk vs[i] (hv _ (List.getElem_mem hlt))) rfl rfl rfl gQ rfl) ?_; conv => whnf)
    | (refine DT.pure hTb rfl (o_purN (c_specValOk vs[i] (hv _ (List.getElem_mem hlt))) rfl rfl rfl gQ rfl) ?_; conv => whnf)); all_goals (try simp only [List.get_eq_getElem] at *)
      all_goals first
        | contradiction
        | (refine ⟨i + 1, ⟨hlt, ?_⟩, by omega, wk_to [] rfl rfl rfl ⟨rfl, rfl, congrArg (fun x => Slot.one (.g (.int .i64 x))) (wrap64' (by omega)), trivial⟩ trivial⟩
           rw [hf, rowGo_step hlt2 hlt]
           have e : cellOk cs[i] vs[i] = true := by
             clear hf h4 hrow hrow2 hv ho hl h1 h2 hi h3
             generalize vs[i] = v at *
             generalize cs[i] = c at *
             clear hlt hlt2
             unfold cellOk
             (try simp only [bne] at *)
             generalize (v.k == 0) = p at *
             generalize (v.k == c.kind) = q at *
             generalize valOk v = r at *
             generalize c.need = u at *
             cases p <;> cases q <;> cases r <;> cases u <;> first | rfl | (exfalso; simp at *)
           rw [e, Bool.true_and]; done)
        | (rw [h4, hf, rowGo_step hlt2 hlt]
           have e : cellOk cs[i] vs[i] = false := by
             clear hf h4 hrow hrow2 hv ho hl h1 h2 hi h3
             generalize vs[i] = v at *
             generalize cs[i] = c at *
             clear hlt hlt2
             unfold cellOk
             (try simp only [bne] at *)
             generalize (v.k == 0) = p at *
             generalize (v.k == c.kind) = q at *
             generalize valOk v = r at *
             generalize c.need = u at *
             cases p <;> cases q <;> cases r <;> cases u <;> first | rfl | (exfalso; simp at *)
           rw [e]; rfl)
    · (conv => whnf)
      rw [h4, hf, rowGo_end (by simp at h2; omega) (by simp at h2; omega)]; rfl
  · have h1 : shapeOk cs = false := by simp_all
    simp only [bS, rowOk, h1, Bool.false_and]
theorem c_implrowOk (cs : List Col) (vs : List Val) (hl : cs.length ≤ maxLen) (hv : ∀ v ∈ vs, v.t.size ≤ maxLen) : CallsV Tryz.prog 82 [colsI cs, valsI vs] [] (pureQ (bS (rowIn cs vs))) := by
  refine pure_walk hTb Tryz.func82 rfl rfl Tryz.ntmps82 (by simp) ?_
  (conv => whnf); repeat' ((first | (refine And.intro ?_ ?_ <;> ((try intro h) <;> (try simp only [Bool.not_true, Bool.not_false] at h) <;> first | exact absurd h gF | exact absurd h.symm gF | conv => whnf))) <;> conv => whnf)
  · have h3 : vs.length ≠ cs.length := by simp at h; omega
    simp only [bS, rowIn, if_pos h3]
  · have h3 : vs.length = cs.length := by simp at h; omega
    have h4 : rowIn cs vs = rowGo cs vs := by simp [rowIn, h3]
    clear h
    refine VL.loopI hTb (fun i => i ≤ vs.length ∧ rowGo cs vs = rowGo (cs.drop i) (vs.drop i)) (fun i => ⟨[(0, colsI cs), (1, valsI vs), (12, valsI vs), (13, iS ((vs.map encVal).length : Nat)), (14, iS i)], [], []⟩) (fun i => vs.length - i) 0 ⟨Nat.zero_le _, rfl⟩
      (wk_to [] rfl rfl rfl ⟨rfl, rfl, rfl, rfl, rfl, trivial⟩ trivial) (fun i hi => ?_)
    obtain ⟨hi, hf⟩ := hi
    (conv => whnf)
    refine And.intro (fun h2 => ?_) (fun h2 => ?_)
    · have hlt : i < vs.length := by simpa using h2
      have hlt2 : i < cs.length := by omega
      have hrow := rowv_at hlt
      have hrow2 := row_at hlt2
      (conv => whnf); repeat' (first
    | (refine And.intro ?_ ?_ <;> ((try intro h) <;> (try simp only [Bool.not_true, Bool.not_false] at h) <;> first | exact absurd h gF | exact absurd h.symm gF | conv => whnf))
    | (refine VL.drawS hTb hMix (by kernel_rfl) (by kernel_rfl) (by kernel_rfl) ?_; conv => whnf)
    | (refine Need.mk ?_; kernel_rfl) | (refine Need.mk ⟨rfl, ?_⟩; decide)
    | (refine VR.op hTb rfl rfl (o_index_imm hTb rfl rfl rfl rfl rfl rfl rfl (Int.natCast_nonneg _) ( hrow)) rfl ?_; conv => whnf)
    | (refine DT.op hTb rfl (o_index_imm hTb rfl rfl rfl rfl rfl rfl rfl (Int.natCast_nonneg _) ( hrow)) rfl ?_; conv => whnf)
    | (refine VR.op hTb rfl rfl (o_index_imm hTb rfl rfl rfl rfl rfl rfl rfl (Int.natCast_nonneg _) ( hrow2)) rfl ?_; conv => whnf)
    | (refine DT.op hTb rfl (o_index_imm hTb rfl rfl rfl rfl rfl rfl rfl (Int.natCast_nonneg _) ( hrow2)) rfl ?_; conv => whnf)
    | (refine VR.pure hTb rfl rfl (o_purN (c_implValOk vs[i] (hv _ (List.getElem_mem hlt))) rfl rfl rfl gQ rfl) ?_; conv => whnf)
    | (refine DT.pure hTb rfl (o_purN (c_implValOk vs[i] (hv _ (List.getElem_mem hlt))) rfl rfl rfl gQ rfl) ?_; conv => whnf)
    | (refine VR.pure hTb rfl rfl (o_purN (c_fits vs[i] _) rfl rfl rfl gQ rfl) ?_; conv => whnf)
    | (refine DT.pure hTb rfl (o_purN (c_fits vs[i] _) rfl rfl rfl gQ rfl) ?_; conv => whnf)); all_goals (try simp only [List.get_eq_getElem] at *)
      all_goals first
        | contradiction
        | (refine ⟨i + 1, ⟨hlt, ?_⟩, by omega, wk_to [] rfl rfl rfl ⟨rfl, rfl, rfl, rfl, congrArg (fun x => Slot.one (.g (.int .i64 x))) (wrap64' (by omega)), trivial⟩ trivial⟩
           rw [hf, rowGo_step hlt2 hlt]
           have e : cellOk cs[i] vs[i] = true := by
             clear hf h4 hrow hrow2 hv hl h2 hi h3
             generalize vs[i] = v at *
             generalize cs[i] = c at *
             clear hlt hlt2
             unfold cellOk
             (try simp only [bne] at *)
             generalize (v.k == 0) = p at *
             generalize (v.k == c.kind) = q at *
             generalize valOk v = r at *
             generalize c.need = u at *
             cases p <;> cases q <;> cases r <;> cases u <;> first | rfl | (exfalso; simp at *)
           rw [e, Bool.true_and]; done)
        | (rw [h4, hf, rowGo_step hlt2 hlt]
           have e : cellOk cs[i] vs[i] = false := by
             clear hf h4 hrow hrow2 hv hl h2 hi h3
             generalize vs[i] = v at *
             generalize cs[i] = c at *
             clear hlt hlt2
             unfold cellOk
             (try simp only [bne] at *)
             generalize (v.k == 0) = p at *
             generalize (v.k == c.kind) = q at *
             generalize valOk v = r at *
             generalize c.need = u at *
             cases p <;> cases q <;> cases r <;> cases u <;> first | rfl | (exfalso; simp at *)
           rw [e]; rfl)
    · (conv => whnf)
      rw [h4, hf, rowGo_end (by simp at h2; omega) (by simp at h2; omega)]; rfl
theorem atGo_spec (s : ByteArray) : ∀ (cs : List Col) (i : Nat), (atGo s cs i = -1 ∧ ∀ c ∈ cs, (c.name.toList == s.toList) = false) ∨ ∃ j, ∃ h : j < cs.length, atGo s cs i = ((i + j : Nat) : Int) ∧ (cs[j].name.toList == s.toList) = true
  | [], i => .inl ⟨rfl, by simp⟩
  | c :: cs, i => by
    unfold atGo
    cases hc : (c.name.toList == s.toList) with
    | true => right; exact ⟨0, by simp, by simp, by simpa using hc⟩
    | false =>
      rcases atGo_spec s cs (i + 1) with ⟨h1, h2⟩ | ⟨j, hj, h1, h2⟩
      · left; simp only [Bool.false_eq_true, if_false]; exact ⟨h1, fun d hd => by rcases List.mem_cons.1 hd with rfl | hd; exact hc; exact h2 d hd⟩
      · right; refine ⟨j + 1, by simpa using hj, ?_, by simpa using h2⟩
        simp only [Bool.false_eq_true, if_false]
        rw [h1]; congr 1; omega
theorem nameAt_spec (cs : List Col) (s : ByteArray) : (nameAt cs s = -1 ∧ ∀ c ∈ cs, (c.name.toList == s.toList) = false) ∨ ∃ j, ∃ h : j < cs.length, nameAt cs s = (j : Int) ∧ (cs[j].name.toList == s.toList) = true := by
  rcases atGo_spec s cs 0 with h | ⟨j, hj, h1, h2⟩
  · exact .inl h
  · exact .inr ⟨j, hj, by unfold nameAt; rw [h1, Nat.zero_add], h2⟩
theorem okGo_all {all : List Col} : ∀ {cs : List Col} {i : Nat}, okGo all cs i = true → ∀ j (h : j < cs.length), nameAt all cs[j].name = ((i + j : Nat) : Int) ∧ colOk cs[j] = true
  | [], _, _, j, h => by simp at h
  | c :: cs, i, ho, j, h => by
    unfold okGo at ho
    simp only [Bool.and_eq_true, beq_iff_eq] at ho
    cases j with
    | zero => simp; exact ⟨ho.1.2, ho.1.1⟩
    | succ j =>
      have := okGo_all ho.2 j (by simpa using h)
      simp only [List.getElem_cons_succ]
      rw [show i + (j + 1) = i + 1 + j by omega]
      exact this
theorem shapeOk_at {cs : List Col} (h : shapeOk cs = true) (j : Nat) (hj : j < cs.length) : nameAt cs cs[j].name = (j : Int) ∧ colOk cs[j] = true := by
  unfold shapeOk at h
  simp only [Bool.and_eq_true] at h
  have := okGo_all h.1 j hj
  rwa [Nat.zero_add] at this
theorem shapeOk_len {cs : List Col} (h : shapeOk cs = true) : 1 ≤ cs.length ∧ cs.length ≤ 5 := by
  unfold shapeOk at h
  simp only [Bool.and_eq_true, decide_eq_true_eq, List.length_map] at h
  omega
theorem smlCols.ok {l : List Col} (h : smlCols l) : ∀ c ∈ l, c.ok := fun c hc => (h c hc).ok
def zVal : Val := ⟨0, 0, ⟨#[]⟩⟩
def zCol : Col := ⟨⟨#[]⟩, 0, false, false, zVal⟩
theorem take_drop_erase {α : Type} {L : List α} {n i : Nat} (hn : L.length = n) (h : i < n) (z : α) :
    (L.take i ++ (L.drop (i + 1)).take (n - (i + 1)) ++ L.drop (i + (n - (i + 1)))).take (0 + (i + (n - (i + 1)))) ++ List.replicate (n - (i + (n - (i + 1)))) z ++ (L.take i ++ (L.drop (i + 1)).take (n - (i + 1)) ++ L.drop (i + (n - (i + 1)))).drop (0 + (i + (n - (i + 1))) + (n - (i + (n - (i + 1))))) = L.eraseIdx i ++ [z] := by
  subst hn
  obtain ⟨a, ha⟩ : ∃ a, a = i + (L.length - (i + 1)) := ⟨_, rfl⟩
  have h1 : (L.drop (i + 1)).take (L.length - (i + 1)) = L.drop (i + 1) := List.take_of_length_le (by simp)
  have h3 : (L.take i ++ L.drop (i + 1)).length = 0 + a := by simp; omega
  have h4 : (L.drop a).length = 1 := by simp; omega
  have h5 : (L.take i ++ L.drop (i + 1) ++ L.drop a).drop (0 + a + 1) = [] := List.drop_eq_nil_of_le (by rw [List.length_append, h3, h4]; exact Nat.le_refl _)
  rw [h1, ← ha, show L.length - a = 1 by omega, List.take_left' h3, h5, List.append_nil, List.eraseIdx_eq_take_drop_succ]
  rfl
theorem map_erase {α β : Type} (f : α → β) : ∀ (l : List α) (i : Nat), (l.eraseIdx i).map f = (l.map f).eraseIdx i
  | [], _ => rfl
  | a :: l, 0 => rfl
  | a :: l, i + 1 => by simp [map_erase f l i]
theorem grVals (l : List Val) {E sz : Nat} : GrO (.arr E sz (l.map encVal)) := by
  intro r hr x hx
  obtain ⟨c, _, rfl⟩ := List.mem_map.1 hr
  obtain ⟨a1, a2, a3⟩ := c
  simp [encVal] at hx
  rcases hx with rfl | rfl | rfl <;> rfl
theorem c_CloneVal (l : List Val) (hl : l.length ≤ 2000000) : CallsV Tryz.prog 202 [.one (.imm 3 (l.map encVal))] [] (funQ (.one (.own 0 0 l.length)) [] [.arr 37 3 (l.map encVal)]) := by
  refine funF_walk hTb Tryz.func202 rfl rfl Tryz.ntmps202 (by simp) (by simp) ?_
  (conv => whnf); repeat' ((first | (refine And.intro ?_ ?_ <;> ((try intro h) <;> (try simp only [gS] at h) <;> first | exact absurd h gF | exact absurd h.symm gF | conv => whnf)) | (refine VR.rel hTb rfl rfl (o_isnil hTb rfl rfl rfl rfl) ?_; intro b hb) | (refine VR.opk hTb rfl rfl (o_app0 (f := encVal) (m := l) (q := 107) hTb rfl rfl rfl rfl rfl rfl rfl rfl rfl rfl (by omega) (by show _ * 32 ≤ _; omega) (by unfold maxLen; omega)) ?_)) <;> conv => whnf)
  · have e := hb ‹b = true›
    have e : l = [] := by cases l with | nil => rfl | cons => simp at e
    subst e
    exact EndV.nil 2 102 3 37 rfl rfl (by decide) (endW [102] rfl rfl rfl rfl rfl (LeS.refl _) rfl rfl)
  · exact endW [107] rfl rfl rfl rfl rfl (LeS.refl _) rfl rfl
theorem c_ClipVal (l : List Val) (hl : l.length ≤ 2000000) : CallsV Tryz.prog 201 [.one (.own 0 0 l.length)] [.arr 37 3 (l.map encVal)] (funQ (.one (.own 0 0 l.length)) [some (.arr 37 3 (l.map encVal))] []) := by
  refine funF_walk hTb Tryz.func201 rfl rfl Tryz.ntmps201 (by simp) (by simp) ?_
  (conv => whnf); repeat' ((first | (refine VR.op hTb rfl rfl (o_slice3_own (n1 := 0) (n2 := l.length) (n3 := l.length) hTb rfl rfl rfl rfl rfl rfl rfl bnd_none (bnd_some rfl) (bnd_some rfl) (Nat.zero_le _) (Nat.le_refl _) (Nat.le_refl _) (by simp)) rfl ?_)) <;> conv => whnf)
  exact endW [] rfl rfl rfl rfl rfl (LeS.refl _) rfl rfl
theorem c_cloneVal (l : List Val) (hl : l.length ≤ 2000000) : CallsV Tryz.prog 180 [.one (.imm 3 (l.map encVal))] [] (funQ (.one (.own 0 0 l.length)) [] [.arr 37 3 (l.map encVal)]) := by
  refine funF_walk hTb Tryz.func180 rfl rfl Tryz.ntmps180 (by simp) (by simp) ?_
  (conv => whnf); repeat' ((first | (refine VR.fun hTb rfl rfl (o_funN (c_CloneVal l hl) false [] gN (by simp) rfl rfl rfl rfl rfl gQ rfl rfl) ?_) | (refine VR.fun hTb rfl rfl (o_funN (c_ClipVal l hl) false [1016] gN (by simp) rfl rfl rfl rfl rfl gQ rfl rfl) ?_)) <;> conv => whnf)
  exact endW [1016] rfl rfl rfl rfl rfl (LeS.refl _) rfl rfl
theorem c_DeleteVal (l : List Val) (i : Nat) (hi : i < l.length) (hl : l.length ≤ 2000000) : CallsV Tryz.prog 203 [.one (.own 0 0 l.length), iS i, iS ((i + 1 : Nat) : Int)] [.arr 37 3 (l.map encVal)]
    (funQ (.one (.own 0 0 (l.length - 1))) [some (.arr 37 3 ((l.eraseIdx i ++ [zVal]).map encVal))] []) := by
  refine funF_walk hTb Tryz.func203 rfl rfl Tryz.ntmps203 (by simp) (by simp) ?_
  have hlm : (l.map encVal).length = l.length := List.length_map _
  have e1 : i + (l.length - (i + 1)) = l.length - 1 := by omega
  (conv => whnf); repeat' ((first | (refine And.intro ?_ ?_ <;> ((try intro h) <;> (try simp only [gS] at h) <;> first | exact absurd h gF | exact absurd h.symm gF | conv => whnf)) | (refine VL.drawS hTb hMix (by kernel_rfl) (by kernel_rfl) (by kernel_rfl) ?_) | (refine Need.mk ?_; kernel_rfl) | (refine VR.op hTb rfl rfl (o_slice3_own (n1 := i) (n2 := i + 1) (n3 := l.length) hTb rfl rfl rfl rfl rfl rfl rfl (bnd_some rfl) (bnd_some rfl) (bnd_some rfl) (Nat.le_succ _) (by omega) (Nat.le_refl _) (by simp)) rfl ?_) | (refine DT.op hTb rfl (o_slice_ownX (n1 := 0) (n2 := i) hTb rfl rfl rfl rfl rfl rfl rfl bnd_none (bnd_some rfl) (Nat.zero_le _) (by simp; omega)) rfl ?_) | (refine DT.op hTb rfl (o_slice_ownX (n1 := i + 1) (n2 := l.length) hTb rfl rfl rfl rfl rfl rfl rfl (bnd_some rfl) bnd_none (by omega) (by simp)) rfl ?_) | (refine DT.op hTb rfl (o_app_in (x := i) (y := i + 1) (m := l.length - (i + 1)) hTb rfl rfl rfl rfl (by simp only [Nat.sub_zero, Nat.add_zero]; rfl) rfl (by simp only [Nat.zero_add]; rfl) rfl (by simp; omega) (by simp; omega) (by simp; omega) (by show _ * 32 ≤ _; omega) (by unfold maxLen; omega)) rfl ?_) | (refine VR.op hTb rfl rfl (o_slice_ownX (n1 := i + (l.length - (i + 1))) (n2 := l.length) hTb rfl rfl rfl rfl rfl rfl rfl (bnd_some rfl) (bnd_some rfl) (by omega) (by simp; omega)) rfl ?_) | (refine VR.op hTb rfl rfl (o_clear hTb rfl rfl rfl rfl rfl rfl rfl rfl (by omega)) rfl ?_)) <;> conv => whnf)
  · exfalso
    have := ‹((i : Int) == ((i + 1 : Nat) : Int)) = true›
    rw [beq_iff_eq] at this
    omega
  · have hr := take_drop_erase hlm hi (encVal zVal)
    rw [← map_erase, ← List.map_singleton, ← List.map_append] at hr
    exact endW [] rfl rfl rfl rfl rfl (LeS.of_eq (congrArg (fun m => Slot.one (.own 0 0 m)) e1)) (congrArg (fun r => [some (Ob.arr 37 3 r)]) hr) rfl
theorem grCols (l : List Col) {E sz : Nat} : GrO (.arr E sz (l.map encCol)) := by
  intro r hr x hx
  obtain ⟨c, _, rfl⟩ := List.mem_map.1 hr
  obtain ⟨a1, a2, a3, a4, ⟨a5, a6, a7⟩⟩ := c
  simp [encCol] at hx
  rcases hx with rfl | rfl | rfl | rfl | rfl | rfl | rfl <;> rfl
theorem c_CloneCol (l : List Col) (hl : l.length ≤ 2000000) : CallsV Tryz.prog 146 [.one (.imm 7 (l.map encCol))] [] (funQ (.one (.own 0 0 l.length)) [] [.arr 39 7 (l.map encCol)]) := by
  refine funF_walk hTb Tryz.func146 rfl rfl Tryz.ntmps146 (by simp) (by simp) ?_
  (conv => whnf); repeat' ((first | (refine And.intro ?_ ?_ <;> ((try intro h) <;> (try simp only [gS] at h) <;> first | exact absurd h gF | exact absurd h.symm gF | conv => whnf)) | (refine VR.rel hTb rfl rfl (o_isnil hTb rfl rfl rfl rfl) ?_; intro b hb) | (refine VR.opk hTb rfl rfl (o_app0 (f := encCol) (m := l) (q := 107) hTb rfl rfl rfl rfl rfl rfl rfl rfl rfl rfl (by omega) (by show _ * 64 ≤ _; omega) (by unfold maxLen; omega)) ?_)) <;> conv => whnf)
  · have e := hb ‹b = true›
    have e : l = [] := by cases l with | nil => rfl | cons => simp at e
    subst e
    exact EndV.nil 2 102 7 39 rfl rfl (by decide) (endW [102] rfl rfl rfl rfl rfl (LeS.refl _) rfl rfl)
  · exact endW [107] rfl rfl rfl rfl rfl (LeS.refl _) rfl rfl
theorem c_ClipCol (l : List Col) (hl : l.length ≤ 2000000) : CallsV Tryz.prog 145 [.one (.own 0 0 l.length)] [.arr 39 7 (l.map encCol)] (funQ (.one (.own 0 0 l.length)) [some (.arr 39 7 (l.map encCol))] []) := by
  refine funF_walk hTb Tryz.func145 rfl rfl Tryz.ntmps145 (by simp) (by simp) ?_
  (conv => whnf); repeat' ((first | (refine VR.op hTb rfl rfl (o_slice3_own (n1 := 0) (n2 := l.length) (n3 := l.length) hTb rfl rfl rfl rfl rfl rfl rfl bnd_none (bnd_some rfl) (bnd_some rfl) (Nat.zero_le _) (Nat.le_refl _) (Nat.le_refl _) (by simp)) rfl ?_)) <;> conv => whnf)
  exact endW [] rfl rfl rfl rfl rfl (LeS.refl _) rfl rfl
theorem c_cloneCol (l : List Col) (hl : l.length ≤ 2000000) : CallsV Tryz.prog 84 [.one (.imm 7 (l.map encCol))] [] (funQ (.one (.own 0 0 l.length)) [] [.arr 39 7 (l.map encCol)]) := by
  refine funF_walk hTb Tryz.func84 rfl rfl Tryz.ntmps84 (by simp) (by simp) ?_
  (conv => whnf); repeat' ((first | (refine VR.fun hTb rfl rfl (o_funN (c_CloneCol l hl) false [] gN (by simp) rfl rfl rfl rfl rfl gQ rfl rfl) ?_) | (refine VR.fun hTb rfl rfl (o_funN (c_ClipCol l hl) false [1016] gN (by simp) rfl rfl rfl rfl rfl gQ rfl rfl) ?_)) <;> conv => whnf)
  exact endW [1016] rfl rfl rfl rfl rfl (LeS.refl _) rfl rfl
theorem c_DeleteCol (l : List Col) (i : Nat) (hi : i < l.length) (hl : l.length ≤ 2000000) : CallsV Tryz.prog 190 [.one (.own 0 0 l.length), iS i, iS ((i + 1 : Nat) : Int)] [.arr 39 7 (l.map encCol)]
    (funQ (.one (.own 0 0 (l.length - 1))) [some (.arr 39 7 ((l.eraseIdx i ++ [zCol]).map encCol))] []) := by
  refine funF_walk hTb Tryz.func190 rfl rfl Tryz.ntmps190 (by simp) (by simp) ?_
  have hlm : (l.map encCol).length = l.length := List.length_map _
  have e1 : i + (l.length - (i + 1)) = l.length - 1 := by omega
  (conv => whnf); repeat' ((first | (refine And.intro ?_ ?_ <;> ((try intro h) <;> (try simp only [gS] at h) <;> first | exact absurd h gF | exact absurd h.symm gF | conv => whnf)) | (refine VL.drawS hTb hMix (by kernel_rfl) (by kernel_rfl) (by kernel_rfl) ?_) | (refine Need.mk ?_; kernel_rfl) | (refine VR.op hTb rfl rfl (o_slice3_own (n1 := i) (n2 := i + 1) (n3 := l.length) hTb rfl rfl rfl rfl rfl rfl rfl (bnd_some rfl) (bnd_some rfl) (bnd_some rfl) (Nat.le_succ _) (by omega) (Nat.le_refl _) (by simp)) rfl ?_) | (refine DT.op hTb rfl (o_slice_ownX (n1 := 0) (n2 := i) hTb rfl rfl rfl rfl rfl rfl rfl bnd_none (bnd_some rfl) (Nat.zero_le _) (by simp; omega)) rfl ?_) | (refine DT.op hTb rfl (o_slice_ownX (n1 := i + 1) (n2 := l.length) hTb rfl rfl rfl rfl rfl rfl rfl (bnd_some rfl) bnd_none (by omega) (by simp)) rfl ?_) | (refine DT.op hTb rfl (o_app_in (x := i) (y := i + 1) (m := l.length - (i + 1)) hTb rfl rfl rfl rfl (by simp only [Nat.sub_zero, Nat.add_zero]; rfl) rfl (by simp only [Nat.zero_add]; rfl) rfl (by simp; omega) (by simp; omega) (by simp; omega) (by show _ * 64 ≤ _; omega) (by unfold maxLen; omega)) rfl ?_) | (refine VR.op hTb rfl rfl (o_slice_ownX (n1 := i + (l.length - (i + 1))) (n2 := l.length) hTb rfl rfl rfl rfl rfl rfl rfl (bnd_some rfl) (bnd_some rfl) (by omega) (by simp; omega)) rfl ?_) | (refine VR.op hTb rfl rfl (o_clear hTb rfl rfl rfl rfl rfl rfl rfl rfl (by omega)) rfl ?_)) <;> conv => whnf)
  · exfalso
    have := ‹((i : Int) == ((i + 1 : Nat) : Int)) = true›
    rw [beq_iff_eq] at this
    omega
  · have hr := take_drop_erase hlm hi (encCol zCol)
    rw [← map_erase, ← List.map_singleton, ← List.map_append] at hr
    exact endW [] rfl rfl rfl rfl rfl (LeS.of_eq (congrArg (fun m => Slot.one (.own 0 0 m)) e1)) (congrArg (fun r => [some (Ob.arr 39 7 r)]) hr) rfl
def bl (l : List UInt8) : ByteArray := ⟨l.toArray⟩
theorem lay_var {w : World} {n : String} {g : Nat} {Q : Array Value → Prop} (hg : Tryz.prog.globalNamed n = some g) (hm : (g, Q) ∈ layP) (hl : LayC w (fun _ => False)) : ∃ cs, w.var? Tryz.prog n = some cs ∧ Q cs := by
  obtain ⟨_, cs, E, m, h1, h2⟩ := hl _ hm
  exact ⟨cs, by simp [World.var?, hg, h1], h2⟩
theorem c_Itoa (n : Int) (h0 : -9223372036854775808 ≤ n) (h1 : n ≤ 9223372036854775807) : CallsV Tryz.prog 209 [iS n] [] (pureQ (strS (bl (Lib.itoa n)))) := by
  refine callsV_ext (vs := [.int .i64 n]) (ent_of Tryz.func209 rfl rfl) fun w hl => ?_
  obtain ⟨cs, hv, rfl⟩ := lay_var (n := "internal/strconv.uint64pow10") (by kernel_rfl) List.mem_cons_self hl
  refine (Tryz.strconv_Itoa n h0 h1 w hv).mono ?_
  rintro e w' ⟨rfl, k, os, rfl⟩
  exact ⟨_, rfl, ⟨rfl, rfl⟩, Lib.below_grow _ _ (Nat.le_refl _) _ _⟩
def atoiS (s : ByteArray) : Slot :=
  match Lib.atoiAll s.data.toList with
  | .ok v => .tup [(false, [.g (.int .i64 v)]), (false, [.g .nilIface])]
  | .range => .tup [(false, [.g (.int .i64 (Lib.atoiSat s.data.toList))]), (false, [.err])]
  | _ => .tup [(false, [.g (.int .i64 0)]), (false, [.err])]
theorem out_pair {x : Value} {l : Leaf} {u : Value} (hx : x.oneCell' = true) (hu : outL l u) : SRep outL (.tup [(false, [.g x]), (false, [l])]) (.tuple #[x, u]) :=
  ⟨_, rfl, ⟨.inr ⟨rfl, _, rfl, rfl, hx⟩, .inr ⟨rfl, _, rfl, hu⟩, trivial⟩⟩
theorem c_Atoi (s : ByteArray) (hs : s.size ≤ 281474976710656) : CallsV Tryz.prog 224 [strS s] [] (pureQ (atoiS s)) := by
  refine callsV_ext (vs := [.string s]) (ent_of Tryz.func224 rfl rfl) fun w hl => ?_
  unfold atoiS
  rcases h : Lib.atoiAll s.data.toList with v | _ | _
  · refine (Tryz.strconv_Atoi_ok s (by omega) v h w).mono ?_
    rintro e w' ⟨rfl, hw⟩
    refine ⟨_, rfl, out_pair rfl ⟨rfl, rfl⟩, ?_⟩
    rcases hw with rfl | ⟨t, rfl⟩
    · exact Below.refl _ _
    · exact Lib.bytesWorld_below _ _ _
  · obtain ⟨cs, hv, tp, p, rfl⟩ := lay_var (n := "strconv.ErrSyntax") (by kernel_rfl) (List.mem_cons_of_mem _ List.mem_cons_self) hl
    refine (Any.strconv_Atoi_syntax_var Tryz.laysAtoi s hs h tp p w hv).mono ?_
    rintro e w' ⟨N, rfl, _, _, hb⟩
    exact ⟨_, rfl, out_pair rfl ⟨_, _, rfl⟩, hb⟩
  · obtain ⟨cs, hv, tp, p, rfl⟩ := lay_var (n := "strconv.ErrRange") (by kernel_rfl) (List.mem_cons_of_mem _ (List.mem_cons_of_mem _ List.mem_cons_self)) hl
    refine (Tryz.strconv_Atoi_range_var s hs h tp p w hv).mono ?_
    rintro e w' ⟨N, rfl, _, _, hb⟩
    exact ⟨_, rfl, out_pair rfl ⟨_, _, rfl⟩, hb⟩
theorem bl_app (a b : List UInt8) : bl (a ++ b) = bl a ++ bl b := by
  apply ByteArray.ext; simp [bl]
theorem bl_one (n : Nat) (h : n < 10) : bsOf [IntKind.u8.wrap (IntKind.i64.wrap (48 + (n : Int)))] = bl [UInt8.ofNat (48 + n)] := by
  have : IntKind.u8.wrap (IntKind.i64.wrap (48 + (n : Int))) = ((48 + n : Nat) : Int) := by
    rw [IntKind.wrap_i64, IntKind.wrap_u8]; omega
  rw [this]; rfl
def decB (n : Nat) : ByteArray := bl (Lib.decDigits n)
theorem decB_step {n : Nat} (h : ¬ n < 10) : decB n = decB (n / 10) ++ bl [UInt8.ofNat (48 + n % 10)] := by
  unfold decB; rw [Lib.decDigits, dif_neg h, bl_app]
theorem decB_end {n : Nat} (h : n < 10) : decB n = bl [UInt8.ofNat (48 + n)] := by
  unfold decB; rw [Lib.decDigits, dif_pos h]
theorem decB_size (n : Nat) : (decB n).size = Lib.nDigits n := by
  rw [← Lib.decDigits_length]; simp [decB, bl, ByteArray.size]
theorem c_l10DecN (n : Nat) (hn : (n : Int) ≤ 9223372036854775807) : CallsV Tryz.prog 222 [iS n] [] (pureQ (strS (decB n))) := by
  refine pure_walk hTb Tryz.func222 rfl rfl Tryz.ntmps222 (by simp) ?_
  (conv => whnf); repeat' ((first | (refine And.intro ?_ ?_ <;> ((try intro h) <;> (try simp only [gS] at h) <;> first | exact absurd h gF | exact absurd h.symm gF | conv => whnf)) | ((exfalso; omega))) <;> conv => whnf)
  refine VL.loopI hTb (α := Nat × ByteArray) (fun x => x.1 ≤ n ∧ decB x.1 ++ x.2 = decB n) (fun x => ⟨[(0, iS x.1), (3, strS x.2)], [], []⟩) (fun x => x.1) (n, ⟨#[]⟩) ⟨Nat.le_refl _, ByteArray.ext (by simp)⟩
    (wk_to [] rfl rfl rfl ⟨rfl, rfl, trivial⟩ trivial) (fun x hx => ?_)
  obtain ⟨m, out⟩ := x
  obtain ⟨hm, he⟩ := hx
  simp only at hm he
  (conv => whnf); repeat' ((first | (refine And.intro ?_ ?_ <;> ((try intro h) <;> (try simp only [gS] at h) <;> first | exact absurd h gF | exact absurd h.symm gF | conv => whnf)) | (refine Need.mk ⟨rfl, ?_⟩; decide) | ((refine VR.op hTb rfl rfl (o_conv_bytes (ns := [_]) hTb rfl rfl rfl rfl rfl rfl rfl rfl rfl (by simp)) rfl ?_; conv => whnf))) <;> conv => whnf)
  · have h1 := congrArg ByteArray.size he
    rw [ByteArray.size_append, decB_size, decB_size] at h1
    have h2 := Lib.nDigits_le20 n (by omega)
    refine Need.mk ?_
    rw [bsOf_size]
    simp only [List.length_cons, List.length_nil]
    omega
  · have e1 : (m : Int).tmod 10 = ((m % 10 : Nat) : Int) := rfl
    have e0 : (m : Int).tdiv 10 = ((m / 10 : Nat) : Int) := rfl
    have e2 : IntKind.i64.wrap ((m : Int).tdiv 10) = ((m / 10 : Nat) : Int) := by rw [e0, IntKind.wrap_i64]; omega
    have e3 := bl_one (m % 10) (by omega)
    rw [← e1] at e3
    refine ⟨(m / 10, bsOf [IntKind.u8.wrap (IntKind.i64.wrap (48 + (m : Int).tmod 10))] ++ out), ⟨by omega, ?_⟩, by show m / 10 < m; omega, wk_to [] rfl rfl rfl ⟨congrArg (fun x => Slot.one (.g (.int .i64 x))) e2, rfl, trivial⟩ trivial⟩
    show decB (m / 10) ++ (_ ++ out) = decB n
    rw [e3, ← ByteArray.append_assoc, ← decB_step (by omega), he]
  · have h1 := congrArg ByteArray.size he
    rw [ByteArray.size_append, decB_size, decB_size] at h1
    have h2 := Lib.nDigits_le20 n (by omega)
    refine Need.mk ?_
    rw [bsOf_size]
    simp only [List.length_cons, List.length_nil]
    omega
  · have e3 := bl_one m (by omega)
    show strS (bsOf [IntKind.u8.wrap (IntKind.i64.wrap (48 + (m : Int)))] ++ out) = strS (decB n)
    rw [e3, ← decB_end (by omega), he]
theorem c_l10Dec (n : Int) (h0 : -9223372036854775807 ≤ n) (h1 : n ≤ 9223372036854775807) : CallsV Tryz.prog 222 [iS n] [] (pureQ (strS (bl (Lib.itoa n)))) := by
  by_cases hneg : n < 0
  · obtain ⟨u, rfl⟩ : ∃ u : Nat, n = -(u : Int) := ⟨n.natAbs, by omega⟩
    have hc := c_l10DecN u (by omega)
    have e1 : IntKind.i64.wrap (0 - (-(u : Int))) = u := by rw [IntKind.wrap_i64]; omega
    rw [Lib.itoa_neg u (by omega)]
    refine pure_walk hTb Tryz.func222 rfl rfl Tryz.ntmps222 (by simp) ?_
    (conv => whnf); repeat' ((first | (refine And.intro ?_ ?_ <;> ((try intro h) <;> (try simp only [gS] at h) <;> first | exact absurd h gF | exact absurd h.symm gF | conv => whnf)) | ((exfalso; omega)) | ((refine VR.pure hTb rfl rfl (o_purN (e1 ▸ hc) rfl rfl rfl gQ rfl) ?_; conv => whnf))) <;> conv => whnf)
    · have h2 := Lib.nDigits_le20 u (by omega)
      refine Need.mk ?_
      rw [decB_size]
      show 1 + _ ≤ _
      omega
    · show strS (bl [45] ++ bl (Lib.decDigits u)) = strS (bl (45 :: Lib.decDigits u))
      rw [← bl_app]; rfl
  · obtain ⟨u, rfl⟩ : ∃ u : Nat, n = u := ⟨n.toNat, by omega⟩
    rw [Lib.itoa_nonneg]
    exact c_l10DecN u (by omega)
theorem valOk_text {v : Val} (h : valOk v = true) (hk : v.k = 2) : v.t.size ≤ 4 := by
  simp [valOk, hk, textOk] at h; omega
theorem valOk_kind {v : Val} (h : valOk v = true) : v.k = 0 ∨ v.k = 1 ∨ v.k = 2 := by
  unfold valOk at h; split at h; exact .inl ‹_›; split at h; exact .inr (.inl ‹_›); split at h; exact .inr (.inr ‹_›); cases h
def valD : Nat → List UInt8 → Option Nat
  | acc, [] => some acc
  | acc, c :: r => if 48 ≤ c.toNat ∧ c.toNat ≤ 57 then valD (acc * 10 + (c.toNat - 48)) r else none
def numR (neg : Bool) (l : List UInt8) : Option Int :=
  if l.length = 0 ∨ 17 < l.length ∨ (l.head? = some 48 ∧ (1 < l.length ∨ neg = true)) then none else (valD 0 l).map fun (n : Nat) => if neg then -(n : Int) else n
def numOf (l : List UInt8) : Option Int := if l.head? = some 45 then numR true l.tail else numR false l
def numS : Option Int → Slot
  | some n => .tup [(false, [.g (.int .i64 n)]), (false, [.g (.bool true)])]
  | none => .tup [(false, [.g (.int .i64 0)]), (false, [.g (.bool false)])]
theorem sg_get (s : ByteArray) (i : Nat) : sgetI s i = (((s.data.toList[i]?).getD 0).toNat : Int) := by
  unfold sgetI
  have : s[i]? = s.data.toList[i]? := by
    rw [Array.getElem?_toList]
    by_cases h : i < s.size
    · rw [getElem?_pos s i h, getElem?_pos s.data i h]; rfl
    · rw [getElem?_neg s i h, getElem?_neg s.data i h]
  rw [this]
theorem size_len (s : ByteArray) : s.size = s.data.toList.length := Array.length_toList.symm
theorem ext_tail (s : ByteArray) : (s.extract 1 s.size).data.toList = s.data.toList.tail := by
  rw [ByteArray.data_extract, Array.toList_extract, List.extract_eq_take_drop, List.take_of_length_le, List.drop_one]
  rw [List.length_drop, ← size_len]; exact Nat.le_refl _
theorem head_sg (R : ByteArray) (c : UInt8) : R.data.toList.head? = some c ↔ (0 < R.size ∧ sgetI R 0 = (c.toNat : Int)) := by
  rw [sg_get, size_len]
  cases R.data.toList with
  | nil => simp
  | cons a l =>
    simp
    constructor
    · rintro rfl; rfl
    · intro h; exact UInt8.toNat_inj.1 (by omega)
theorem numOf_eq (s : ByteArray) : numOf s.data.toList =
    if 0 < s.size ∧ sgetI s 0 = 45 then (if (s.extract 1 s.size).size = 0 ∨ 17 < (s.extract 1 s.size).size ∨ sgetI (s.extract 1 s.size) 0 = 48 then none else (valD 0 (s.extract 1 s.size).data.toList).map fun (n : Nat) => -(n : Int))
    else (if s.size = 0 ∨ 17 < s.size ∨ (sgetI s 0 = 48 ∧ 1 < s.size) then none else (valD 0 s.data.toList).map fun (n : Nat) => (n : Int)) := by
  unfold numOf
  have h0 : s.data.toList.head? = some 45 ↔ (0 < s.size ∧ sgetI s 0 = 45) := head_sg s 45
  by_cases h : 0 < s.size ∧ sgetI s 0 = 45
  · rw [if_pos (h0.2 h), if_pos h, ← ext_tail]
    unfold numR
    have h1 : (s.extract 1 s.size).data.toList.head? = some 48 ↔ (0 < (s.extract 1 s.size).size ∧ sgetI (s.extract 1 s.size) 0 = 48) := head_sg _ 48
    rw [← size_len]
    generalize s.extract 1 s.size = R at h1 ⊢
    by_cases h2 : R.size = 0 ∨ 17 < R.size ∨ sgetI R 0 = 48
    · rw [if_pos h2, if_pos]
      rcases h2 with h2 | h2 | h2
      · exact .inl h2
      · exact .inr (.inl h2)
      · by_cases h3 : R.size = 0
        · exact .inl h3
        · exact .inr (.inr ⟨h1.2 ⟨by omega, h2⟩, .inr rfl⟩)
    · rw [if_neg h2, if_neg]
      · rfl
      · rintro (h3 | h3 | ⟨h3, _⟩)
        · exact h2 (.inl h3)
        · exact h2 (.inr (.inl h3))
        · exact h2 (.inr (.inr (h1.1 h3).2))
  · rw [if_neg (fun e => h (h0.1 e)), if_neg h]
    unfold numR
    have h1 : s.data.toList.head? = some 48 ↔ (0 < s.size ∧ sgetI s 0 = 48) := head_sg _ 48
    rw [← size_len]
    by_cases h2 : s.size = 0 ∨ 17 < s.size ∨ (sgetI s 0 = 48 ∧ 1 < s.size)
    · rw [if_pos h2, if_pos]
      rcases h2 with h2 | h2 | h2
      · exact .inl h2
      · exact .inr (.inl h2)
      · exact .inr (.inr ⟨h1.2 ⟨by omega, h2.1⟩, .inl h2.2⟩)
    · rw [if_neg h2, if_neg]
      · rfl
      · rintro (h3 | h3 | ⟨h3, h4⟩)
        · exact h2 (.inl h3)
        · exact h2 (.inr (.inl h3))
        · rcases h4 with h4 | h4
          · exact h2 (.inr (.inr ⟨(h1.1 h3).2, h4⟩))
          · cases h4
theorem valD_sg (R : ByteArray) (i : Nat) (h : i < R.size) (acc : Nat) : valD acc (R.data.toList.drop i) =
    if 48 ≤ sgetI R i ∧ sgetI R i ≤ 57 then valD (acc * 10 + ((sgetI R i).toNat - 48)) (R.data.toList.drop (i + 1)) else none := by
  rw [sg_get]
  rw [size_len] at h
  rw [List.drop_eq_getElem_cons h, List.getElem?_eq_getElem h]
  simp only [Option.getD_some, Int.toNat_natCast, valD]
  by_cases h2 : 48 ≤ R.data.toList[i].toNat ∧ R.data.toList[i].toNat ≤ 57
  · rw [if_pos h2, if_pos (by omega)]
  · rw [if_neg h2, if_neg (by omega)]
theorem valD_end (R : ByteArray) (i : Nat) (h : R.size ≤ i) (acc : Nat) : valD acc (R.data.toList.drop i) = some acc := by
  rw [List.drop_eq_nil_of_le (by rw [← size_len]; exact h)]; rfl
theorem step_wrap {acc : Nat} {x : Int} (h1 : 48 ≤ x) (h2 : x ≤ 57) (ha : acc < 100000000000000000) :
    IntKind.i64.wrap (IntKind.i64.wrap ((acc : Int) * 10) + IntKind.i64.wrap (IntKind.u8.wrap (x - 48))) = ((acc * 10 + (x.toNat - 48) : Nat) : Int) := by
  have e1 : IntKind.u8.wrap (x - 48) = x - 48 := by rw [IntKind.wrap_u8]; omega
  have e2 : IntKind.i64.wrap (x - 48) = x - 48 := by rw [IntKind.wrap_i64]; omega
  have e3 : IntKind.i64.wrap ((acc : Int) * 10) = (acc : Int) * 10 := by rw [IntKind.wrap_i64]; omega
  rw [e1, e2, e3, IntKind.wrap_i64]
  omega
theorem c_l10Num (s : ByteArray) (hs : s.size ≤ maxLen) : CallsV Tryz.prog 221 [strS s] [] (pureQ (numS (numOf s.data.toList))) := by
  refine pure_walk hTb Tryz.func221 rfl rfl Tryz.ntmps221 (by simp) ?_
  (conv => whnf); repeat' ((first | (refine And.intro ?_ ?_ <;> ((try intro h) <;> (try simp only [gS] at h) <;> first | exact absurd h gF | exact absurd h.symm gF | conv => whnf)) | (refine VR.op hTb rfl rfl (o_slice_str (n1 := 1) (n2 := s.size) hTb rfl rfl rfl rfl (bnd_some rfl) bnd_none (by omega) (by omega)) rfl ?_)) <;> conv => whnf)
  all_goals (try simp only [Int.toNat_zero, beq_iff_eq, beq_eq_false_iff_ne, ne_eq] at *)
  all_goals first
    | (refine Need.mk ?_; omega)
    | (rw [numOf_eq]; (repeat' split) <;> first | rfl | (exfalso; simp_all; done) | (exfalso; simp_all; omega))
    | (have hN : numOf s.data.toList = (valD 0 s.data.toList).map (fun (n : Nat) => if sgetI s 0 = 45 then -(n : Int) else (n : Int)) := by
         rw [numOf_eq, if_neg (by omega), if_neg (by omega)]
         congr 1
         funext n
         rw [if_neg (by omega)]
       refine VL.loopI hTb (α := Nat × Nat) (fun x => x.1 ≤ s.size ∧ valD 0 s.data.toList = valD x.2 (s.data.toList.drop x.1) ∧ x.2 < 10 ^ x.1) (fun x => ⟨[(0, strS s), (4, .one (.g (.bool (sgetI s 0 == 45)))), (5, iS x.2), (6, iS x.1)], [], []⟩) (fun x => s.size - x.1) (0, 0) ⟨Nat.zero_le _, rfl, by decide⟩
        (wk_to [] rfl rfl rfl ⟨rfl, rfl, rfl, rfl, trivial⟩ trivial) (fun x hx => ?_)
       obtain ⟨j, acc⟩ := x
       obtain ⟨hj, he, hb⟩ := hx
       simp only at hj he hb
       have hp : 10 ^ j ≤ 10 ^ 17 := Nat.pow_le_pow_right (by decide) (by omega)
       simp only [Nat.reducePow] at hp
       ((conv => whnf); repeat' ((first | (refine And.intro ?_ ?_ <;> ((try intro h) <;> (try simp only [gS] at h) <;> first | exact absurd h gF | exact absurd h.symm gF | conv => whnf))) <;> conv => whnf))
       all_goals (try simp only [Int.toNat_natCast, beq_iff_eq, beq_eq_false_iff_ne, ne_eq] at *)
       all_goals first
         | (refine Need.mk ?_; omega)
         | (rw [hN, he, valD_sg _ _ (by omega), if_neg (by omega)]; done)
         | (rw [hN, he, valD_sg _ _ (by omega), if_neg (by omega)]; exact rfl)
         | (rw [hN, he, valD_end _ _ (by omega), Option.map_some, if_pos (by assumption), numS]; have e0 : IntKind.i64.wrap (0 - (acc : Int)) = -(acc : Int) := by (rw [IntKind.wrap_i64]; omega)
            rw [e0]; done)
         | (rw [hN, he, valD_end _ _ (by omega), Option.map_some, if_neg (by assumption), numS]; done)
         | (have e1 := step_wrap (acc := acc) (x := sgetI s j) (by assumption) (by assumption) (by omega)
            refine ⟨(j + 1, acc * 10 + ((sgetI s j).toNat - 48)), ⟨?_, ?_, ?_⟩, ?_, wk_to [] rfl rfl rfl ⟨rfl, rfl, congrArg (fun x => Slot.one (.g (.int .i64 x))) e1, gW (by unfold maxLen; omega), trivial⟩ trivial⟩
            · show j + 1 ≤ _; omega
            · show _ = valD (acc * 10 + ((sgetI s j).toNat - 48)) (List.drop (j + 1) _); rw [he, valD_sg _ _ (by omega), if_pos (by omega)]
            · show acc * 10 + ((sgetI s j).toNat - 48) < 10 ^ (j + 1); rw [Nat.pow_succ]; omega
            · show _ - (j + 1) < _ - j; omega))
    | (have hN : numOf s.data.toList = (valD 0 (s.extract 1 s.size).data.toList).map (fun (n : Nat) => if sgetI s 0 = 45 then -(n : Int) else (n : Int)) := by
         rw [numOf_eq, if_pos (by omega), if_neg (by omega)]
         congr 1
         funext n
         rw [if_pos (by assumption)]
       refine VL.loopI hTb (α := Nat × Nat) (fun x => x.1 ≤ (s.extract 1 s.size).size ∧ valD 0 (s.extract 1 s.size).data.toList = valD x.2 ((s.extract 1 s.size).data.toList.drop x.1) ∧ x.2 < 10 ^ x.1) (fun x => ⟨[(0, strS (s.extract 1 s.size)), (4, .one (.g (.bool (sgetI s 0 == 45)))), (5, iS x.2), (6, iS x.1)], [], []⟩) (fun x => (s.extract 1 s.size).size - x.1) (0, 0) ⟨Nat.zero_le _, rfl, by decide⟩
        (wk_to [] rfl rfl rfl ⟨rfl, rfl, rfl, rfl, trivial⟩ trivial) (fun x hx => ?_)
       obtain ⟨j, acc⟩ := x
       obtain ⟨hj, he, hb⟩ := hx
       simp only at hj he hb
       have hp : 10 ^ j ≤ 10 ^ 17 := Nat.pow_le_pow_right (by decide) (by omega)
       simp only [Nat.reducePow] at hp
       ((conv => whnf); repeat' ((first | (refine And.intro ?_ ?_ <;> ((try intro h) <;> (try simp only [gS] at h) <;> first | exact absurd h gF | exact absurd h.symm gF | conv => whnf))) <;> conv => whnf))
       all_goals (try simp only [Int.toNat_natCast, beq_iff_eq, beq_eq_false_iff_ne, ne_eq] at *)
       all_goals first
         | (refine Need.mk ?_; omega)
         | (rw [hN, he, valD_sg _ _ (by omega), if_neg (by omega)]; done)
         | (rw [hN, he, valD_sg _ _ (by omega), if_neg (by omega)]; exact rfl)
         | (rw [hN, he, valD_end _ _ (by omega), Option.map_some, if_pos (by assumption), numS]; have e0 : IntKind.i64.wrap (0 - (acc : Int)) = -(acc : Int) := by (rw [IntKind.wrap_i64]; omega)
            rw [e0]; done)
         | (rw [hN, he, valD_end _ _ (by omega), Option.map_some, if_neg (by assumption), numS]; done)
         | (have e1 := step_wrap (acc := acc) (x := sgetI (s.extract 1 s.size) j) (by assumption) (by assumption) (by omega)
            refine ⟨(j + 1, acc * 10 + ((sgetI (s.extract 1 s.size) j).toNat - 48)), ⟨?_, ?_, ?_⟩, ?_, wk_to [] rfl rfl rfl ⟨rfl, rfl, congrArg (fun x => Slot.one (.g (.int .i64 x))) e1, gW (by unfold maxLen; omega), trivial⟩ trivial⟩
            · show j + 1 ≤ _; omega
            · show _ = valD (acc * 10 + ((sgetI (s.extract 1 s.size) j).toNat - 48)) (List.drop (j + 1) _); rw [he, valD_sg _ _ (by omega), if_pos (by omega)]
            · show acc * 10 + ((sgetI (s.extract 1 s.size) j).toNat - 48) < 10 ^ (j + 1); rw [Nat.pow_succ]; omega
            · show _ - (j + 1) < _ - j; omega))
theorem valD_snoc : ∀ (l : List UInt8) (acc : Nat) (c : UInt8), valD acc (l ++ [c]) = (valD acc l).bind fun m => if 48 ≤ c.toNat ∧ c.toNat ≤ 57 then some (m * 10 + (c.toNat - 48)) else none
  | [], acc, c => by simp [valD]
  | a :: l, acc, c => by
    simp only [List.cons_append, valD]
    split
    · exact valD_snoc l _ c
    · rfl
theorem valD_le : ∀ {l : List UInt8} {acc m : Nat}, valD acc l = some m → acc ≤ m
  | [], acc, m, h => by simp [valD] at h; omega
  | a :: l, acc, m, h => by
    simp only [valD] at h
    split at h
    · have := valD_le h; omega
    · cases h
theorem valD_pos {l : List UInt8} {m : Nat} (hn : l ≠ []) (h0 : l.head? ≠ some 48) (h : valD 0 l = some m) : 1 ≤ m := by
  cases l with
  | nil => exact absurd rfl hn
  | cons a l =>
    simp only [valD] at h
    split at h
    · rename_i h2
      have h3 := valD_le h
      have : a.toNat ≠ 48 := fun e => h0 (by simp; exact UInt8.toNat_inj.1 e)
      omega
    · cases h
theorem digit_back {c : UInt8} (h1 : 48 ≤ c.toNat) : UInt8.ofNat (48 + (c.toNat - 48)) = c := by
  rw [show 48 + (c.toNat - 48) = c.toNat by omega]; simp
theorem dec_of_val : ∀ (k : Nat) (l : List UInt8) (m : Nat), l.length = k → l ≠ [] → (l.head? = some 48 → l.length = 1) → valD 0 l = some m → Lib.decDigits m = l
  | 0, l, m, hk, hn, _, _ => absurd (List.eq_nil_of_length_eq_zero hk) hn
  | k + 1, l, m, hk, hn, hz, h => by
    obtain ⟨l', c, rfl⟩ : ∃ l' c, l = l' ++ [c] := ⟨l.dropLast, l.getLast hn, (List.dropLast_concat_getLast hn).symm⟩
    rw [valD_snoc] at h
    obtain ⟨m', h1, h2⟩ := Option.bind_eq_some_iff.1 h
    split at h2
    · rename_i h3
      cases h2
      by_cases hl : l' = []
      · subst hl
        simp [valD] at h1
        subst h1
        rw [Lib.decDigits_one (by omega)]
        simp only [Nat.zero_mul, Nat.zero_add, List.nil_append]
        rw [digit_back h3.1]
      · have hh : (l' ++ [c]).head? = l'.head? := by cases l' with | nil => exact absurd rfl hl | cons => rfl
        have hlen : 1 ≤ l'.length := by cases l' with | nil => exact absurd rfl hl | cons => simp
        have hz' : l'.head? ≠ some 48 := fun e => by
          have := hz (hh.trans e)
          rw [List.length_append, List.length_singleton] at this; omega
        have hp := valD_pos hl hz' h1
        have ih := dec_of_val k l' m' (by simp at hk; omega) hl (fun e => absurd e hz') h1
        rw [Lib.decDigits, dif_neg (by omega), show (m' * 10 + (c.toNat - 48)) / 10 = m' by omega, ih, show (m' * 10 + (c.toNat - 48)) % 10 = c.toNat - 48 by omega, digit_back h3.1]
    · cases h2
theorem itoa_of_num {l : List UInt8} {n : Int} (h : numOf l = some n) : Lib.itoa n = l := by
  unfold numOf at h
  split at h
  · rename_i h0
    unfold numR at h
    split at h
    · cases h
    · rename_i h1
      obtain ⟨m, h2, h3⟩ := Option.map_eq_some_iff.1 h
      have hn : l.tail ≠ [] := fun e => h1 (.inl (by rw [e]; rfl))
      have hz : l.tail.head? ≠ some 48 := fun e => h1 (.inr (.inr ⟨e, .inr rfl⟩))
      have hp := valD_pos hn hz h2
      have hd := dec_of_val _ _ m rfl hn (fun e => absurd e hz) h2
      rw [if_pos rfl] at h3
      subst h3
      rw [Lib.itoa_neg m hp, hd]
      cases l with
      | nil => cases h0
      | cons a l => simp at h0; subst h0; rfl
  · unfold numR at h
    split at h
    · cases h
    · rename_i h0 h1
      obtain ⟨m, h2, h3⟩ := Option.map_eq_some_iff.1 h
      have hn : l ≠ [] := fun e => h1 (.inl (by rw [e]; rfl))
      have hd := dec_of_val _ _ m rfl hn (fun e => by
        have : ¬ 1 < l.length := fun h4 => h1 (.inr (.inr ⟨e, .inl h4⟩))
        have : l.length ≠ 0 := fun h4 => hn (List.eq_nil_of_length_eq_zero h4)
        omega) h2
      simp at h3
      subst h3
      rw [Lib.itoa_nonneg, hd]
theorem num_small : ∀ i : Fin 1999, numOf (Lib.itoa ((i.val : Int) - 999)) = some ((i.val : Int) - 999) ∧ Lib.atoiAll (Lib.itoa ((i.val : Int) - 999)) = .ok ((i.val : Int) - 999) := by decide +kernel
theorem num_of_itoa {n : Int} (h0 : -999 ≤ n) (h1 : n ≤ 999) : numOf (Lib.itoa n) = some n ∧ Lib.atoiAll (Lib.itoa n) = .ok n := by
  have h := num_small ⟨(n + 999).toNat, by omega⟩
  rw [show (((n + 999).toNat : Nat) : Int) - 999 = n by omega] at h
  exact h
def numV (t : ByteArray) : Val := match numOf t.data.toList with
  | some n => if -999 ≤ n ∧ n ≤ 999 then ⟨1, n, ⟨#[]⟩⟩ else ⟨0, 0, ⟨#[]⟩⟩
  | none => ⟨0, 0, ⟨#[]⟩⟩
theorem numV_yes {t : ByteArray} {n : Int} (h : -999 ≤ n ∧ n ≤ 999) (e : Lib.itoa n = t.data.toList) : numV t = ⟨1, n, ⟨#[]⟩⟩ := by
  unfold numV; rw [← e, (num_of_itoa h.1 h.2).1]; simp only [if_pos h]
theorem numV_no {t : ByteArray} (h : ∀ n, -999 ≤ n → n ≤ 999 → Lib.atoiAll t.data.toList = .ok n → Lib.itoa n ≠ t.data.toList) : numV t = ⟨0, 0, ⟨#[]⟩⟩ := by
  unfold numV
  cases e : numOf t.data.toList with
  | none => rfl
  | some n =>
    simp only
    split
    · rename_i h1
      have e1 := itoa_of_num e
      have e2 := (num_of_itoa h1.1 h1.2).2
      rw [e1] at e2
      exact absurd e1 (h n h1.1 h1.2 e2)
    · rfl
theorem valOk_n (v : Int) : valOk ⟨1, v, ⟨#[]⟩⟩ = (decide (-999 ≤ v) && decide (v ≤ 999)) := by
  simp [valOk, emptyList]
theorem c_numVal (t : ByteArray) (ht : t.size ≤ 281474976710656) : CallsV Tryz.prog 210 [strS t] [] (pureQ (.agg (encVal (numV t)))) := by
  have c1 := c_Atoi t ht
  unfold atoiS at c1
  rcases hat : Lib.atoiAll t.data.toList with v | _ | _
  · rw [hat] at c1
    simp only at c1
    have hv := Lib.atoiAll_bounds hat
    have c2 := c_implValOk ⟨1, v, ⟨#[]⟩⟩ (show (⟨#[]⟩ : ByteArray).size ≤ maxLen by decide)
    rw [valOk_n] at c2
    have c3 := c_Itoa v (by omega) (by omega)
    refine pure_walk hTb Tryz.func210 rfl rfl Tryz.ntmps210 (by simp) ?_
    (conv => whnf); repeat' ((first | (refine And.intro ?_ ?_ <;> ((try intro h) <;> (try simp only [gS] at h) <;> first | exact absurd h gF | exact absurd h.symm gF | conv => whnf)) | (refine VR.pure hTb rfl rfl (o_purN (c1) rfl rfl rfl gQ rfl) ?_) | (refine VR.op hTb rfl rfl (o_noerr rfl (by kernel_rfl) rfl rfl (.inr ⟨rfl, rfl⟩)) rfl ?_) | (refine VR.pure hTb rfl rfl (o_purN (c2) rfl rfl rfl gQ rfl) ?_) | (refine VR.pure hTb rfl rfl (o_purN (c3) rfl rfl rfl gQ rfl) ?_)) <;> conv => whnf)
    all_goals simp only [ByteArray.toList_eq, bl] at *
    · rw [numV_no fun n _ _ e e2 => by rw [hat] at e; cases e; simp_all]; rfl
    · rw [numV_yes (n := v) (by simp_all) (by simp_all)]; rfl
    · rw [numV_no fun n h0 h1 e e2 => by rw [hat] at e; cases e; simp_all]; rfl
  all_goals
    rw [hat] at c1
    simp only at c1
    rw [numV_no (fun n _ _ e => by rw [hat] at e; cases e)]
    refine pure_walk hTb Tryz.func210 rfl rfl Tryz.ntmps210 (by simp) ?_
    (conv => whnf); repeat' ((first | (refine And.intro ?_ ?_ <;> ((try intro h) <;> (try simp only [gS] at h) <;> first | exact absurd h gF | exact absurd h.symm gF | conv => whnf)) | (refine VR.pure hTb rfl rfl (o_purN (c1) rfl rfl rfl gQ rfl) ?_) | (refine VR.op hTb rfl rfl (o_err rfl (by kernel_rfl) rfl rfl (.inr ⟨rfl, rfl⟩)) rfl ?_)) <;> conv => whnf)
    all_goals rfl
def valAs (v : Val) (kd : Int) : Val := if valOk v = true ∧ (kd = 1 ∨ kd = 2) ∧ v.k ≠ 0 then (if v.k = kd then v else if kd = 2 then ⟨2, 0, bl (Lib.itoa v.n)⟩ else numV v.t) else ⟨0, 0, ⟨#[]⟩⟩
theorem c_implValAs (k n : Int) (t : ByteArray) (kd : Int) (hv : t.size ≤ 281474976710656) : CallsV Tryz.prog 191 [.agg (encVal ⟨k, n, t⟩), iS kd] [] (pureQ (.agg (encVal (valAs ⟨k, n, t⟩ kd)))) := by
  have c1 := c_implValOk ⟨k, n, t⟩ (show t.size ≤ maxLen by unfold maxLen; omega)
  obtain ⟨b, hb⟩ : ∃ b, valOk ⟨k, n, t⟩ = b := ⟨_, rfl⟩
  rw [hb] at c1
  have hr : b = true → -999 ≤ n ∧ n ≤ 999 := fun e => by
    have h := hb.trans e
    unfold valOk at h
    simp only at h
    split at h
    · simp at h; omega
    · split at h
      · simp at h; omega
      · split at h
        · simp at h; omega
        · cases h
  have c2 : b = true → CallsV Tryz.prog 209 [iS n] [] (pureQ (strS (bl (Lib.itoa n)))) := fun e => by
    have := hr e
    exact c_Itoa n (by omega) (by omega)
  have c3 := c_numVal t hv
  obtain ⟨⟨a1, a2, a3⟩, ha⟩ : ∃ x, numV t = x := ⟨_, rfl⟩
  rw [ha] at c3
  refine pure_walk hTb Tryz.func191 rfl rfl Tryz.ntmps191 (by simp) ?_
  cases b <;> (conv => whnf); repeat' ((first | (refine And.intro ?_ ?_ <;> ((try intro h) <;> (try simp only [gS] at h) <;> first | exact absurd h gF | exact absurd h.symm gF | conv => whnf)) | (refine VR.pure hTb rfl rfl (o_purN (c1) rfl rfl rfl gQ rfl) ?_) | (refine VR.pure hTb rfl rfl (o_purN (c2 rfl) rfl rfl rfl gQ rfl) ?_) | (refine VR.pure hTb rfl rfl (o_purN (c3) rfl rfl rfl gQ rfl) ?_) | (refine VR.pure hTb rfl rfl (o_purN (c_in _ _ _) rfl rfl rfl gQ rfl) ?_)) <;> conv => whnf)
  all_goals (try simp only [Bool.not_eq_true', Bool.not_eq_false', Bool.and_eq_true, Bool.and_eq_false_iff, decide_eq_true_eq, decide_eq_false_iff_not, beq_iff_eq, beq_eq_false_iff_ne, ne_eq] at *)
  all_goals
    show _ = Slot.agg (encVal (if valOk ⟨k, n, t⟩ = true ∧ (kd = 1 ∨ kd = 2) ∧ k ≠ 0 then (if k = kd then ⟨k, n, t⟩ else if kd = 2 then ⟨2, 0, bl (Lib.itoa n)⟩ else numV t) else ⟨0, 0, ⟨#[]⟩⟩))
    (repeat' split) <;> first
      | rfl
      | (exfalso; simp_all; done)
      | (exfalso; omega)
      | (exfalso; simp_all; omega)
      | (rw [ha]; rfl)
theorem numS_eq (o : Option Int) : ∃ x b, numS o = .tup [(false, [.g (.int .i64 x)]), (false, [.g (.bool b)])] ∧ (b = true → o = some x) ∧ (b = false → o = none) := by
  cases o with
  | none => exact ⟨0, false, rfl, (fun e => by cases e), fun _ => rfl⟩
  | some x => exact ⟨x, true, rfl, fun _ => rfl, fun e => by cases e⟩
theorem c_specValAs (k n : Int) (t : ByteArray) (kd : Int) (hv : t.size ≤ maxLen) : CallsV Tryz.prog 206 [.agg (encVal ⟨k, n, t⟩), iS kd] [] (pureQ (.agg (encVal (valAs ⟨k, n, t⟩ kd)))) := by
  have c1 := c_specValOk ⟨k, n, t⟩ hv
  obtain ⟨b, hb⟩ : ∃ b, valOk ⟨k, n, t⟩ = b := ⟨_, rfl⟩
  rw [hb] at c1
  have hr : b = true → -999 ≤ n ∧ n ≤ 999 := fun e => by
    have h := hb.trans e
    unfold valOk at h
    simp only at h
    split at h
    · simp at h; omega
    · split at h
      · simp at h; omega
      · split at h
        · simp at h; omega
        · cases h
  have c2 : b = true → CallsV Tryz.prog 222 [iS n] [] (pureQ (strS (bl (Lib.itoa n)))) := fun e => by
    have := hr e
    exact c_l10Dec n (by omega) (by omega)
  have c3 := c_l10Num t hv
  obtain ⟨x, y, h1, h2, h3⟩ := numS_eq (numOf t.data.toList)
  rw [h1] at c3
  refine pure_walk hTb Tryz.func206 rfl rfl Tryz.ntmps206 (by simp) ?_
  cases b <;> cases y <;> (conv => whnf); repeat' ((first | (refine And.intro ?_ ?_ <;> ((try intro h) <;> (try simp only [gS] at h) <;> first | exact absurd h gF | exact absurd h.symm gF | conv => whnf)) | (refine VR.pure hTb rfl rfl (o_purN (c1) rfl rfl rfl gQ rfl) ?_) | (refine VR.pure hTb rfl rfl (o_purN (c2 rfl) rfl rfl rfl gQ rfl) ?_) | (refine VR.pure hTb rfl rfl (o_purN (c3) rfl rfl rfl gQ rfl) ?_) | (refine VR.pure hTb rfl rfl (o_purN (c_l1Num _) rfl rfl rfl gQ rfl) ?_)) <;> conv => whnf)
  all_goals simp only [beq_iff_eq, beq_eq_false_iff_ne, ne_eq, Bool.and_eq_true, decide_eq_true_eq, Bool.and_eq_false_iff, decide_eq_false_iff_not] at *
  all_goals
    show _ = Slot.agg (encVal (if valOk ⟨k, n, t⟩ = true ∧ (kd = 1 ∨ kd = 2) ∧ k ≠ 0 then (if k = kd then ⟨k, n, t⟩ else if kd = 2 then ⟨2, 0, bl (Lib.itoa n)⟩ else numV t) else ⟨0, 0, ⟨#[]⟩⟩))
    (repeat' split) <;> first
      | rfl
      | (exfalso; simp_all; done)
      | (exfalso; omega)
      | (exfalso; simp_all; omega)
      | (unfold numV; simp_all; done)
      | (simp_all [encVal]; done)
      | (unfold numV; simp_all; split <;> first | rfl | (exfalso; omega))
      | (unfold numV; simp_all; rfl)
def kCol (k : Int) : Col := ⟨⟨#[]⟩, k, false, false, ⟨0, 0, ⟨#[]⟩⟩⟩
def namedB (c : Change) : Bool :=
  if c.kind = 1 then (⟨#[]⟩ : ByteArray).toList == c.name.toList && (⟨#[]⟩ : ByteArray).toList == c.new.toList
  else if c.kind = 2 then (⟨#[]⟩ : ByteArray).toList == c.new.toList && q_Col (kCol 0) c.col
  else if c.kind = 3 then q_Col (kCol 0) c.col
  else if c.kind = 4 then (⟨#[]⟩ : ByteArray).toList == c.new.toList && q_Col (kCol c.col.kind) c.col
  else false
theorem c_named (c : Change) : CallsV Tryz.prog 189 [.agg (encChange c)] [] (pureQ (bS (namedB c))) := by
  obtain ⟨kd, nm, nw, ⟨cn, ck, c1, c2, ⟨d1, d2, d3⟩⟩⟩ := c
  refine pure_walk hTb Tryz.func189 rfl rfl Tryz.ntmps189 (by simp) ?_
  (conv => whnf); repeat' ((first | (refine And.intro ?_ ?_ <;> ((try intro h) <;> (try simp only [gS] at h) <;> first | exact absurd h gF | exact absurd h.symm gF | conv => whnf)) | (refine VL.drawS hTb hMix (by kernel_rfl) (by kernel_rfl) (by kernel_rfl) ?_) | (refine Need.mk ?_; kernel_rfl)) <;> conv => whnf)
  all_goals simp only [bS, namedB, beq_iff_eq, beq_eq_false_iff_ne, ne_eq] at *
  all_goals first
    | (rw [if_pos (by assumption)]; simp; done)
    | (rw [if_neg (by assumption), if_pos (by assumption)]; simp [q_Col, q_Val, kCol]; done)
    | (rw [if_neg (by assumption), if_neg (by assumption), if_pos (by assumption)]; simp [q_Col, q_Val, kCol]; done)
    | (rw [if_neg (by assumption), if_neg (by assumption), if_neg (by assumption), if_pos (by assumption)]; simp [q_Col, q_Val, kCol]; done)
    | (rw [if_neg (by assumption), if_neg (by assumption), if_neg (by assumption), if_neg (by assumption)]; done)
theorem c_l2Rest (c : Change) : CallsV Tryz.prog 204 [.agg (encChange c)] [] (pureQ (.agg (encCol (kCol (if c.kind = 4 then c.col.kind else 0))))) := by
  obtain ⟨kd, nm, nw, ⟨cn, ck, c1, c2, ⟨d1, d2, d3⟩⟩⟩ := c
  refine pure_walk hTb Tryz.func204 rfl rfl Tryz.ntmps204 (by simp) ?_
  (conv => whnf); repeat' ((first | (refine And.intro ?_ ?_ <;> ((try intro h) <;> (try simp only [gS] at h) <;> first | exact absurd h gF | exact absurd h.symm gF | conv => whnf))) <;> conv => whnf)
  all_goals simp only [beq_iff_eq, beq_eq_false_iff_ne, ne_eq] at *
  · rw [if_pos (by assumption)]; rfl
  · rw [if_neg (by assumption)]; rfl
theorem c_l2Cut (l : List Col) (k : Nat) (hk : k < l.length) (hl : l.length ≤ 2000000) : CallsV Tryz.prog 205 [colsI l, iS k] [] (funQ (.one (.own 0 0 (l.length - 1))) [] [.arr 39 7 ((l.eraseIdx k).map encCol)]) := by
  have e1 : (l.take k).length = k := by simp; omega
  have e2 : (l.drop (k + 1)).length = l.length - (k + 1) := by simp
  have ew : IntKind.i64.wrap ((k : Int) + 1) = ((k + 1 : Nat) : Int) := by rw [IntKind.wrap_i64]; omega
  refine funF_walk hTb Tryz.func205 rfl rfl Tryz.ntmps205 (by simp) (by simp) ?_
  (conv => whnf); repeat' ((first | (refine And.intro ?_ ?_ <;> ((try intro h) <;> (try simp only [gS] at h) <;> first | exact absurd h gF | exact absurd h.symm gF | conv => whnf)) | (refine VL.drawS hTb hMix (by kernel_rfl) (by kernel_rfl) (by kernel_rfl) ?_) | (refine Need.mk ?_; kernel_rfl) | (refine DT.op hTb rfl (o_slice_imm (n1 := 0) (n2 := k) (rows' := (l.take k).map encCol) hTb rfl rfl rfl rfl rfl rfl bnd_none (bnd_some rfl) (Nat.zero_le _) (by simp; omega) (by rw [List.drop_zero, Nat.sub_zero, List.map_take])) rfl ?_) | (refine DT.op hTb rfl (o_slice_imm (n1 := k + 1) (n2 := (l.map encCol).length) (rows' := (l.drop (k + 1)).map encCol) hTb rfl rfl rfl rfl rfl rfl (bnd_wr rfl ew) bnd_none (by simp; omega) (by simp) (by rw [← List.map_drop]; exact List.take_of_length_le (by simp))) rfl ?_) | (refine DT.opk hTb rfl (o_app0 (f := encCol) (m := (l.take k)) (q := 109) hTb rfl rfl rfl rfl rfl rfl rfl rfl rfl rfl (by omega) (by show _ * 64 ≤ _; omega) (by unfold maxLen; omega)) ?_) | (refine DT.opk hTb rfl (o_appN (f := encCol) (l := l.take k) (m := l.drop (k + 1)) (q := 114) hTb rfl rfl rfl rfl rfl rfl rfl rfl rfl rfl rfl (by omega) (by show _ * 64 ≤ _; omega) (by unfold maxLen; omega)) ?_)) <;> conv => whnf)
  exact endW [114] rfl rfl rfl rfl rfl (LeS.of_eq (congrArg (fun n => Slot.one (.own 0 0 n)) (by rw [e1, e2]; omega))) rfl (congrArg (fun r => [Ob.arr 39 7 r]) (by rw [List.eraseIdx_eq_take_drop_succ]))
end Go.Vl
