/- Contracts: a value as one of another kind. Contracts: a change of columns: what it names. Contracts: a value read from its text. The plain laws of values: what is turned into another kind, and what is read. Contracts: columns behind a change. -/
import Derived.Test.YtddefkbmiicnbaaGreatDoorJBc
set_option linter.unusedSimpArgs false
set_option linter.unusedVariables false

namespace Go.Vl
open Go Go.RowKit Go.Proofs
set_option maxRecDepth 100000
set_option linter.unusedSimpArgs false
set_option linter.unusedVariables false
set_option maxHeartbeats 800000

def valAs (v : Val) (kd : Int) : Val := if valOk v = true ∧ (kd = 1 ∨ kd = 2) ∧ v.k ≠ 0 then (if v.k = kd then v else if kd = 2 then ⟨2, 0, bl (Lib.itoa v.n)⟩ else numV v.t) else ⟨0, 0, ⟨#[]⟩⟩
theorem c_implValAs (k n : Int) (t : ByteArray) (kd : Int) (hv : t.size ≤ 281474976710656) : CallsV Tryz.prog 211 [.agg (encVal ⟨k, n, t⟩), iS kd] [] (pureQ (.agg (encVal (valAs ⟨k, n, t⟩ kd)))) := by
  have c1 := c_implValOk ⟨k, n, t⟩ (show t.size ≤ maxLen by unfold maxLen; omega)
  obtain ⟨b, hb⟩ : ∃ b, valOk ⟨k, n, t⟩ = b := ⟨_, rfl⟩
  rw [hb] at c1
  have hr : b = true → -999 ≤ n ∧ n ≤ 999 := fun e => by
    have h := hb.trans e
    unfold valOk at h
    simp only at h
    split at h
    · simp at h; omega
    · split at h
      · simp at h; omega
      · split at h
        · simp at h; omega
        · cases h
  have c2 : b = true → CallsV Tryz.prog 231 [iS n] [] (pureQ (strS (bl (Lib.itoa n)))) := fun e => by
    have := hr e
    exact c_Itoa n (by omega) (by omega)
  have c3 := c_numVal t hv
  obtain ⟨⟨a1, a2, a3⟩, ha⟩ : ∃ x, numV t = x := ⟨_, rfl⟩
  rw [ha] at c3
  refine pure_walk hTb Tryz.func211 rfl rfl Tryz.ntmps211 (by simp) ?_
  cases b <;> (conv => whnf); repeat' (first
    | (refine And.intro ?_ ?_ <;> ((try intro h) <;> (try simp only [Bool.not_true, Bool.not_false, decide_eq_true_eq, decide_eq_false_iff_not, Int.not_lt, Int.not_le, gt_iff_lt, ge_iff_le] at h) <;> first | exact absurd h Bool.false_ne_true | exact absurd h.symm Bool.false_ne_true | conv => whnf))
    | (refine VL.drawS hTb hMix (by kernel_rfl) (by kernel_rfl) (by kernel_rfl) ?_; conv => whnf)
    | (refine Need.mk ?_; kernel_rfl) | (refine Need.mk ⟨rfl, ?_⟩; decide)
    | (refine VR.pure hTb rfl rfl (o_purN (c1) rfl rfl rfl ⟨rfl, rfl, rfl, rfl⟩ rfl) ?_; conv => whnf)
    | (refine DT.pure hTb rfl (o_purN (c1) rfl rfl rfl ⟨rfl, rfl, rfl, rfl⟩ rfl) ?_; conv => whnf)
    | (refine VR.pure hTb rfl rfl (o_purN (c2 rfl) rfl rfl rfl ⟨rfl, rfl, rfl, rfl⟩ rfl) ?_; conv => whnf)
    | (refine DT.pure hTb rfl (o_purN (c2 rfl) rfl rfl rfl ⟨rfl, rfl, rfl, rfl⟩ rfl) ?_; conv => whnf)
    | (refine VR.pure hTb rfl rfl (o_purN (c3) rfl rfl rfl ⟨rfl, rfl, rfl, rfl⟩ rfl) ?_; conv => whnf)
    | (refine DT.pure hTb rfl (o_purN (c3) rfl rfl rfl ⟨rfl, rfl, rfl, rfl⟩ rfl) ?_; conv => whnf)
    | (refine VR.pure hTb rfl rfl (o_purN (c_in _ _ _) rfl rfl rfl ⟨rfl, rfl, rfl, rfl⟩ rfl) ?_; conv => whnf)
    | (refine DT.pure hTb rfl (o_purN (c_in _ _ _) rfl rfl rfl ⟨rfl, rfl, rfl, rfl⟩ rfl) ?_; conv => whnf))
  all_goals (try simp only [Bool.not_eq_true', Bool.not_eq_false', Bool.and_eq_true, Bool.and_eq_false_iff, decide_eq_true_eq, decide_eq_false_iff_not, beq_iff_eq, beq_eq_false_iff_ne, ne_eq] at *)
  all_goals
    show _ = Slot.agg (encVal (if valOk ⟨k, n, t⟩ = true ∧ (kd = 1 ∨ kd = 2) ∧ k ≠ 0 then (if k = kd then ⟨k, n, t⟩ else if kd = 2 then ⟨2, 0, bl (Lib.itoa n)⟩ else numV t) else ⟨0, 0, ⟨#[]⟩⟩))
    (repeat' split) <;> first
      | rfl
      | (exfalso; simp_all; done)
      | (exfalso; omega)
      | (exfalso; simp_all; omega)
      | (rw [ha]; rfl)
theorem numS_eq (o : Option Int) : ∃ x b, numS o = .tup [(false, [.g (.int .i64 x)]), (false, [.g (.bool b)])] ∧ (b = true → o = some x) ∧ (b = false → o = none) := by
  cases o with
  | none => exact ⟨0, false, rfl, (fun e => by cases e), fun _ => rfl⟩
  | some x => exact ⟨x, true, rfl, fun _ => rfl, fun e => by cases e⟩
theorem c_specValAs (k n : Int) (t : ByteArray) (kd : Int) (hv : t.size ≤ maxLen) : CallsV Tryz.prog 228 [.agg (encVal ⟨k, n, t⟩), iS kd] [] (pureQ (.agg (encVal (valAs ⟨k, n, t⟩ kd)))) := by
  have c1 := c_specValOk ⟨k, n, t⟩ hv
  obtain ⟨b, hb⟩ : ∃ b, valOk ⟨k, n, t⟩ = b := ⟨_, rfl⟩
  rw [hb] at c1
  have hr : b = true → -999 ≤ n ∧ n ≤ 999 := fun e => by
    have h := hb.trans e
    unfold valOk at h
    simp only at h
    split at h
    · simp at h; omega
    · split at h
      · simp at h; omega
      · split at h
        · simp at h; omega
        · cases h
  have c2 : b = true → CallsV Tryz.prog 242 [iS n] [] (pureQ (strS (bl (Lib.itoa n)))) := fun e => by
    have := hr e
    exact c_l10Dec n (by omega) (by omega)
  have c3 := c_l10Num t hv
  obtain ⟨x, y, h1, h2, h3⟩ := numS_eq (numOf t.data.toList)
  rw [h1] at c3
  refine pure_walk hTb Tryz.func228 rfl rfl Tryz.ntmps228 (by simp) ?_
  cases b <;> cases y <;> (conv => whnf); repeat' (first
    | (refine And.intro ?_ ?_ <;> ((try intro h) <;> (try simp only [Bool.not_true, Bool.not_false, decide_eq_true_eq, decide_eq_false_iff_not, Int.not_lt, Int.not_le, gt_iff_lt, ge_iff_le] at h) <;> first | exact absurd h Bool.false_ne_true | exact absurd h.symm Bool.false_ne_true | conv => whnf))
    | (refine VL.drawS hTb hMix (by kernel_rfl) (by kernel_rfl) (by kernel_rfl) ?_; conv => whnf)
    | (refine Need.mk ?_; kernel_rfl) | (refine Need.mk ⟨rfl, ?_⟩; decide)
    | (refine VR.pure hTb rfl rfl (o_purN (c1) rfl rfl rfl ⟨rfl, rfl, rfl, rfl⟩ rfl) ?_; conv => whnf)
    | (refine DT.pure hTb rfl (o_purN (c1) rfl rfl rfl ⟨rfl, rfl, rfl, rfl⟩ rfl) ?_; conv => whnf)
    | (refine VR.pure hTb rfl rfl (o_purN (c2 rfl) rfl rfl rfl ⟨rfl, rfl, rfl, rfl⟩ rfl) ?_; conv => whnf)
    | (refine DT.pure hTb rfl (o_purN (c2 rfl) rfl rfl rfl ⟨rfl, rfl, rfl, rfl⟩ rfl) ?_; conv => whnf)
    | (refine VR.pure hTb rfl rfl (o_purN (c3) rfl rfl rfl ⟨rfl, rfl, rfl, rfl⟩ rfl) ?_; conv => whnf)
    | (refine DT.pure hTb rfl (o_purN (c3) rfl rfl rfl ⟨rfl, rfl, rfl, rfl⟩ rfl) ?_; conv => whnf)
    | (refine VR.pure hTb rfl rfl (o_purN (c_l1Num _) rfl rfl rfl ⟨rfl, rfl, rfl, rfl⟩ rfl) ?_; conv => whnf)
    | (refine DT.pure hTb rfl (o_purN (c_l1Num _) rfl rfl rfl ⟨rfl, rfl, rfl, rfl⟩ rfl) ?_; conv => whnf))
  all_goals simp only [beq_iff_eq, beq_eq_false_iff_ne, ne_eq, Bool.and_eq_true, decide_eq_true_eq, Bool.and_eq_false_iff, decide_eq_false_iff_not] at *
  all_goals
    show _ = Slot.agg (encVal (if valOk ⟨k, n, t⟩ = true ∧ (kd = 1 ∨ kd = 2) ∧ k ≠ 0 then (if k = kd then ⟨k, n, t⟩ else if kd = 2 then ⟨2, 0, bl (Lib.itoa n)⟩ else numV t) else ⟨0, 0, ⟨#[]⟩⟩))
    (repeat' split) <;> first
      | rfl
      | (exfalso; simp_all; done)
      | (exfalso; omega)
      | (exfalso; simp_all; omega)
      | (unfold numV; simp_all; done)
      | (simp_all [encVal]; done)
      | (unfold numV; simp_all; split <;> first | rfl | (exfalso; omega))
      | (unfold numV; simp_all; rfl)
end Go.Vl

namespace Go.Vl
open Go Go.RowKit Go.Proofs
set_option maxRecDepth 100000
set_option linter.unusedSimpArgs false
set_option linter.unusedVariables false
set_option maxHeartbeats 2000000

def kCol (k : Int) : Col := ⟨⟨#[]⟩, k, false, false, ⟨0, 0, ⟨#[]⟩⟩⟩
def namedB (c : Change) : Bool :=
  if c.kind = 1 then (⟨#[]⟩ : ByteArray).toList == c.name.toList && (⟨#[]⟩ : ByteArray).toList == c.new.toList
  else if c.kind = 2 then (⟨#[]⟩ : ByteArray).toList == c.new.toList && q_Col (kCol 0) c.col
  else if c.kind = 3 then q_Col (kCol 0) c.col
  else if c.kind = 4 then (⟨#[]⟩ : ByteArray).toList == c.new.toList && q_Col (kCol c.col.kind) c.col
  else false
theorem c_named (c : Change) : CallsV Tryz.prog 209 [.agg (encChange c)] [] (pureQ (bS (namedB c))) := by
  obtain ⟨kd, nm, nw, ⟨cn, ck, c1, c2, ⟨d1, d2, d3⟩⟩⟩ := c
  refine pure_walk hTb Tryz.func209 rfl rfl Tryz.ntmps209 (by simp) ?_
  (conv => whnf); repeat' (first
    | (refine And.intro ?_ ?_ <;> ((try intro h) <;> (try simp only [Bool.not_true, Bool.not_false, decide_eq_true_eq, decide_eq_false_iff_not, Int.not_lt, Int.not_le, gt_iff_lt, ge_iff_le] at h) <;> first | exact absurd h Bool.false_ne_true | exact absurd h.symm Bool.false_ne_true | conv => whnf))
    | (refine VL.drawS hTb hMix (by kernel_rfl) (by kernel_rfl) (by kernel_rfl) ?_; conv => whnf)
    | (refine Need.mk ?_; kernel_rfl) | (refine Need.mk ⟨rfl, ?_⟩; decide)
    | (fail))
  all_goals simp only [bS, namedB, beq_iff_eq, beq_eq_false_iff_ne, ne_eq] at *
  all_goals first
    | (rw [if_pos (by assumption)]; simp; done)
    | (rw [if_neg (by assumption), if_pos (by assumption)]; simp [q_Col, q_Val, kCol]; done)
    | (rw [if_neg (by assumption), if_neg (by assumption), if_pos (by assumption)]; simp [q_Col, q_Val, kCol]; done)
    | (rw [if_neg (by assumption), if_neg (by assumption), if_neg (by assumption), if_pos (by assumption)]; simp [q_Col, q_Val, kCol]; done)
    | (rw [if_neg (by assumption), if_neg (by assumption), if_neg (by assumption), if_neg (by assumption)]; done)
theorem c_l2Rest (c : Change) : CallsV Tryz.prog 226 [.agg (encChange c)] [] (pureQ (.agg (encCol (kCol (if c.kind = 4 then c.col.kind else 0))))) := by
  obtain ⟨kd, nm, nw, ⟨cn, ck, c1, c2, ⟨d1, d2, d3⟩⟩⟩ := c
  refine pure_walk hTb Tryz.func226 rfl rfl Tryz.ntmps226 (by simp) ?_
  (conv => whnf); repeat' (first
    | (refine And.intro ?_ ?_ <;> ((try intro h) <;> (try simp only [Bool.not_true, Bool.not_false, decide_eq_true_eq, decide_eq_false_iff_not, Int.not_lt, Int.not_le, gt_iff_lt, ge_iff_le] at h) <;> first | exact absurd h Bool.false_ne_true | exact absurd h.symm Bool.false_ne_true | conv => whnf))
    | (refine VL.drawS hTb hMix (by kernel_rfl) (by kernel_rfl) (by kernel_rfl) ?_; conv => whnf)
    | (refine Need.mk ?_; kernel_rfl) | (refine Need.mk ⟨rfl, ?_⟩; decide)
    | (fail))
  all_goals simp only [beq_iff_eq, beq_eq_false_iff_ne, ne_eq] at *
  · rw [if_pos (by assumption)]; rfl
  · rw [if_neg (by assumption)]; rfl
theorem c_l2Cut (l : List Col) (k : Nat) (hk : k < l.length) (hl : l.length ≤ 2000000) : CallsV Tryz.prog 227 [colsI l, iS k] [] (funQ (.one (.own 0 0 (l.length - 1))) [] [.arr 49 7 ((l.eraseIdx k).map encCol)]) := by
  have e1 : (l.take k).length = k := by simp; omega
  have e2 : (l.drop (k + 1)).length = l.length - (k + 1) := by simp
  have ew : IntKind.i64.wrap ((k : Int) + 1) = ((k + 1 : Nat) : Int) := by rw [IntKind.wrap_i64]; omega
  refine funF_walk hTb Tryz.func227 rfl rfl Tryz.ntmps227 (by simp) (by simp) ?_
  (conv => whnf); repeat' (first
    | (refine And.intro ?_ ?_ <;> ((try intro h) <;> (try simp only [Bool.not_true, Bool.not_false, decide_eq_true_eq, decide_eq_false_iff_not, Int.not_lt, Int.not_le, gt_iff_lt, ge_iff_le] at h) <;> first | exact absurd h Bool.false_ne_true | exact absurd h.symm Bool.false_ne_true | conv => whnf))
    | (refine VL.drawS hTb hMix (by kernel_rfl) (by kernel_rfl) (by kernel_rfl) ?_; conv => whnf)
    | (refine Need.mk ?_; kernel_rfl) | (refine Need.mk ⟨rfl, ?_⟩; decide)
    | (refine DT.op hTb rfl (o_slice_imm (n1 := 0) (n2 := k) (rows' := (l.take k).map encCol) hTb rfl rfl rfl rfl rfl rfl bnd_none (bnd_some rfl) (Nat.zero_le _) (by simp; omega) (by rw [List.drop_zero, Nat.sub_zero, List.map_take])) rfl ?_; conv => whnf)
    | (refine DT.op hTb rfl (o_slice_imm (n1 := k + 1) (n2 := (l.map encCol).length) (rows' := (l.drop (k + 1)).map encCol) hTb rfl rfl rfl rfl rfl rfl (bnd_wr rfl ew) bnd_none (by simp; omega) (by simp) (by rw [← List.map_drop]; exact List.take_of_length_le (by simp))) rfl ?_; conv => whnf)
    | (refine VR.opk hTb rfl rfl (o_app0 (f := encCol) (m := (l.take k)) (q := 109) hTb rfl rfl rfl rfl rfl rfl rfl rfl rfl rfl (by omega) (by show _ * 64 ≤ _; omega) (by unfold maxLen; omega)) ?_; conv => whnf)
    | (refine DT.opk hTb rfl (o_app0 (f := encCol) (m := (l.take k)) (q := 109) hTb rfl rfl rfl rfl rfl rfl rfl rfl rfl rfl (by omega) (by show _ * 64 ≤ _; omega) (by unfold maxLen; omega)) ?_; conv => whnf)
    | (refine DT.opk hTb rfl (o_appN (f := encCol) (l := l.take k) (m := l.drop (k + 1)) (q := 114) hTb rfl rfl rfl rfl rfl rfl rfl rfl rfl rfl rfl (by omega) (by show _ * 64 ≤ _; omega) (by unfold maxLen; omega)) ?_; conv => whnf))
  exact endW [114] rfl rfl rfl rfl rfl (LeS.of_eq (congrArg (fun n => Slot.one (.own 0 0 n)) (by rw [e1, e2]; omega))) rfl (congrArg (fun r => [Ob.arr 49 7 r]) (by rw [List.eraseIdx_eq_take_drop_succ]))
end Go.Vl

namespace Go.Vl
open Go Go.RowKit Go.Proofs
set_option maxRecDepth 100000
set_option linter.unusedSimpArgs false
set_option linter.unusedVariables false
set_option maxHeartbeats 1600000

theorem ba_ext {a b : ByteArray} (h : a.data.toList = b.data.toList) : a = b := by
  apply ByteArray.ext; exact Array.toList_inj.1 h
-- what the program does
-- what the reference does
end Go.Vl

namespace Go.Vl
open Go Go.RowKit Go.Proofs
set_option maxRecDepth 100000
set_option linter.unusedSimpArgs false
set_option linter.unusedVariables false
set_option maxHeartbeats 1600000

theorem tl_ext {a b : ByteArray} (h : a.toList = b.toList) : a = b := by
  rw [ByteArray.toList_eq, ByteArray.toList_eq] at h; exact ba_ext h
theorem zero_ok : valOk ⟨0, 0, ⟨#[]⟩⟩ = true := by decide +kernel
theorem valOk_nil {v : Val} (h : valOk v = true) (hk : v.k = 0) : v = ⟨0, 0, ⟨#[]⟩⟩ := by
  obtain ⟨k, n, t⟩ := v
  simp only at hk; subst hk
  unfold valOk at h
  simp only [if_true, Bool.and_eq_true, beq_iff_eq] at h
  obtain ⟨h1, h2⟩ := h
  subst h1
  rw [tl_ext (h2.trans emptyList.symm)]
theorem valOk_one {v : Val} (h : valOk v = true) (hk : v.k = 1) : v = ⟨1, v.n, ⟨#[]⟩⟩ ∧ -999 ≤ v.n ∧ v.n ≤ 999 := by
  obtain ⟨k, n, t⟩ := v
  simp only at hk; subst hk
  unfold valOk at h
  simp [Bool.and_eq_true, beq_iff_eq] at h
  obtain ⟨⟨h1, h3⟩, h2⟩ := h
  rw [tl_ext (h2.trans emptyList.symm)]
  exact ⟨rfl, h1, h3⟩
theorem num_text : ∀ i : Fin 1999, valOk ⟨2, 0, bl (Lib.itoa ((i.val : Int) - 999))⟩ = true := by decide +kernel
theorem num_text' {n : Int} (h : -999 ≤ n ∧ n ≤ 999) : valOk ⟨2, 0, bl (Lib.itoa n)⟩ = true := by
  have := num_text ⟨(n + 999).toNat, by omega⟩
  rwa [show (((n + 999).toNat : Nat) : Int) - 999 = n by omega] at this
theorem numV_cases (t : ByteArray) : (∃ n, -999 ≤ n ∧ n ≤ 999 ∧ numOf t.data.toList = some n ∧ numV t = ⟨1, n, ⟨#[]⟩⟩) ∨ numV t = ⟨0, 0, ⟨#[]⟩⟩ := by
  unfold numV
  cases e : numOf t.data.toList with
  | none => exact .inr rfl
  | some n =>
    simp only
    by_cases h : -999 ≤ n ∧ n ≤ 999
    · rw [if_pos h]; exact .inl ⟨n, h.1, h.2, rfl, rfl⟩
    · rw [if_neg h]; exact .inr rfl
theorem num1_ok {n : Int} (h : -999 ≤ n ∧ n ≤ 999) : valOk ⟨1, n, ⟨#[]⟩⟩ = true := by rw [valOk_n]; simp; omega
theorem valAs_no {v : Val} {kd : Int} (h : valOk v = false ∨ ¬ (kd = 1 ∨ kd = 2)) : valAs v kd = ⟨0, 0, ⟨#[]⟩⟩ := by
  unfold valAs
  rw [if_neg]
  rintro ⟨h1, h2, _⟩
  rcases h with h | h
  · rw [h] at h1; cases h1
  · exact h h2
theorem valAs_nil (kd : Int) : valAs ⟨0, 0, ⟨#[]⟩⟩ kd = ⟨0, 0, ⟨#[]⟩⟩ := by
  unfold valAs
  rw [if_neg]
  rintro ⟨_, _, h⟩
  exact h rfl
theorem valAs_same {v : Val} {kd : Int} (h : valOk v = true) (hk : kd = 1 ∨ kd = 2) (e : v.k = kd) : valAs v kd = v := by
  unfold valAs
  rw [if_pos ⟨h, hk, by omega⟩, if_pos e]
theorem valAs_nt {v : Val} (h : valOk v = true) (hk : v.k = 1) : valAs v 2 = ⟨2, 0, bl (Lib.itoa v.n)⟩ := by
  unfold valAs
  rw [if_pos ⟨h, .inr rfl, by omega⟩, if_neg (by omega), if_pos rfl]
theorem valAs_tn {v : Val} (h : valOk v = true) (hk : v.k = 2) : valAs v 1 = numV v.t := by
  unfold valAs
  rw [if_pos ⟨h, .inl rfl, by omega⟩, if_neg (by omega), if_neg (by omega)]
/-- All that comes about. -/
theorem valAs_cases (v : Val) (kd : Int) : valAs v kd = ⟨0, 0, ⟨#[]⟩⟩ ∨ (valOk v = true ∧ (kd = 1 ∨ kd = 2) ∧ v.k = kd ∧ valAs v kd = v) ∨
    (valOk v = true ∧ v.k = 1 ∧ kd = 2 ∧ valAs v kd = ⟨2, 0, bl (Lib.itoa v.n)⟩) ∨ (valOk v = true ∧ v.k = 2 ∧ kd = 1 ∧ ∃ n, -999 ≤ n ∧ n ≤ 999 ∧ numOf v.t.data.toList = some n ∧ valAs v kd = ⟨1, n, ⟨#[]⟩⟩) := by
  by_cases h : valOk v = true
  · by_cases hk : kd = 1 ∨ kd = 2
    · rcases valOk_kind h with e | e | e
      · left; rw [valOk_nil h e]; exact valAs_nil kd
      · rcases hk with rfl | rfl
        · exact .inr (.inl ⟨h, .inl rfl, e, valAs_same h (.inl rfl) e⟩)
        · exact .inr (.inr (.inl ⟨h, e, rfl, valAs_nt h e⟩))
      · rcases hk with rfl | rfl
        · rcases numV_cases v.t with ⟨n, h1, h2, h3, h4⟩ | h4
          · exact .inr (.inr (.inr ⟨h, e, rfl, n, h1, h2, h3, (valAs_tn h e).trans h4⟩))
          · exact .inl ((valAs_tn h e).trans h4)
        · exact .inr (.inl ⟨h, .inr rfl, e, valAs_same h (.inr rfl) e⟩)
    · exact .inl (valAs_no (.inr hk))
  · exact .inl (valAs_no (.inl (by simpa using h)))
theorem valAs_ok (v : Val) (kd : Int) : valOk (valAs v kd) = true := by
  rcases valAs_cases v kd with e | ⟨h, _, _, e⟩ | ⟨h, h1, _, e⟩ | ⟨h, h1, _, n, h2, h3, _, e⟩
  · rw [e]; exact zero_ok
  · rw [e]; exact h
  · rw [e]; exact num_text' (valOk_one h h1).2
  · rw [e]; exact num1_ok ⟨h2, h3⟩
theorem valAs_size (v : Val) (kd : Int) : (valAs v kd).t.size ≤ 4 := by
  have h := valAs_ok v kd
  rcases valOk_kind h with e | e | e
  · rw [valOk_nil h e]; decide
  · rw [(valOk_one h e).1]; show (⟨#[]⟩ : ByteArray).size ≤ 4; decide
  · exact valOk_text h e
-- what is read
end Go.Vl

namespace Go.Vl
open Go Go.RowKit Go.Proofs
set_option maxRecDepth 100000
set_option linter.unusedSimpArgs false
set_option linter.unusedVariables false
set_option maxHeartbeats 4000000

def Col.md (c : Col) : Prop := c.name.size ≤ 1048576 ∧ c.d.t.size ≤ 1048576
def mdCols (l : List Col) : Prop := ∀ x ∈ l, x.md
def Change.md (c : Change) : Prop := c.name.size ≤ 1048576 ∧ c.new.size ≤ 1048576 ∧ c.col.md
def ccName (x : Col) (s : ByteArray) : Col := ⟨s, x.kind, x.need, x.once, x.d⟩
def ccKind (x : Col) (k : Int) : Col := ⟨x.name, k, x.need, x.once, valAs x.d k⟩
def chDo (s : List Col) (c : Change) : Option (List Col) :=
  if namedB c = false then none
  else if c.kind = 1 then (if c.col.need = true ∧ c.col.d.k = 0 then none else some (s ++ [c.col]))
  else if nameAt s c.name < 0 then none
  else if c.kind = 2 then some (s.eraseIdx (nameAt s c.name).toNat)
  else if c.kind = 3 then some (s.set (nameAt s c.name).toNat (ccName (s.getD (nameAt s c.name).toNat (kCol 0)) c.new))
  else if c.col.kind = (s.getD (nameAt s c.name).toNat (kCol 0)).kind then none
  else some (s.set (nameAt s c.name).toNat (ccKind (s.getD (nameAt s c.name).toNat (kCol 0)) c.col.kind))
def okO (s : List Col) (o : Option (List Col)) : List Col × Bool := match o with
  | some out => if shapeOk out then (out, true) else (s, false)
  | none => (s, false)
def shDo (s : List Col) (c : Change) : List Col × Bool := okO s (chDo s c)
abbrev shS (x : List Col × Bool) : Slot := .tup [(false, [.own 0 0 x.1.length]), (false, [.g (.bool x.2)])]
abbrev shN (x : List Col × Bool) : List Ob := [.arr 49 7 (x.1.map encCol)]
theorem mdCols.ok {l : List Col} (h : mdCols l) : ∀ c ∈ l, c.ok := fun c hc => ⟨by have := (h c hc).1; unfold maxLen; omega, by have := (h c hc).2; show c.d.t.size ≤ maxLen; unfold maxLen; omega⟩
theorem mdCols.app {l : List Col} {c : Col} (h : mdCols l) (hc : c.md) : mdCols (l ++ [c]) := by
  intro x hx
  rcases List.mem_append.1 hx with hx | hx
  · exact h x hx
  · simp at hx; subst hx; exact hc
theorem mdCols.set {l : List Col} {c : Col} {i : Nat} (h : mdCols l) (hc : c.md) : mdCols (l.set i c) := by
  intro x hx
  rcases List.mem_or_eq_of_mem_set hx with hx | rfl
  · exact h x hx
  · exact hc
theorem mdCols.erase {l : List Col} {i : Nat} (h : mdCols l) : mdCols (l.eraseIdx i) := fun x hx => h x (List.mem_of_mem_eraseIdx hx)
theorem md_getD {l : List Col} {i : Nat} (h : mdCols l) (hi : i < l.length) : (l.getD i (kCol 0)).md := by
  have e : l.getD i (kCol 0) = l[i] := by simp [List.getD, hi]
  rw [e]; exact h _ (List.getElem_mem hi)
theorem brwE {l : List Col} {k : Nat} (h : k < l.length) (z : Col) : Slot.one (.imm 7 ((((l.eraseIdx k ++ [z]).map encCol).drop 0).take (l.length - 1))) = colsI (l.eraseIdx k) := by
  have e : (l.eraseIdx k).length = l.length - 1 := by rw [List.length_eraseIdx, if_pos h]
  rw [List.drop_zero, List.map_append, List.take_left' (by rw [List.length_map, e])]; rfl
theorem grNewCol (n : Nat) (l : List Col) : GrS (.one (.own 0 0 n)) ∧ (∀ ob, some ob ∈ ([] : List (Option Ob)) → GrO ob) ∧ ∀ ob ∈ [Ob.arr 49 7 (l.map encCol)], GrO ob :=
  ⟨rfl, fun _ h => by simp at h, fun ob h => by simp at h; subst h; exact grCols l⟩
theorem namedB_kind {c : Change} (h : namedB c = true) : c.kind = 1 ∨ c.kind = 2 ∨ c.kind = 3 ∨ c.kind = 4 := by
  unfold namedB at h
  split at h; exact .inl ‹_›
  split at h; exact .inr (.inl ‹_›)
  split at h; exact .inr (.inr (.inl ‹_›))
  split at h; exact .inr (.inr (.inr ‹_›))
  cases h
theorem c_change (s : List Col) (c : Change) (hl : s.length ≤ 1900000) (hs : mdCols s) (hc : c.md) : CallsV Tryz.prog 155 [colsI s, .agg (encChange c)] [] (funQ (shS (shDo s c)) [] (shN (shDo s c))) := by
  obtain ⟨kd, nm, nw, ⟨cn, ck, c1, c2, ⟨d1, d2, d3⟩⟩⟩ := c
  have cN := c_named ⟨kd, nm, nw, ⟨cn, ck, c1, c2, ⟨d1, d2, d3⟩⟩⟩
  have cA := c_colAt s nm (by unfold maxLen; omega)
  have c0 := c_cloneCol s (by omega)
  have hok := fun (l : List Col) (h : mdCols l) (hn : l.length ≤ 2000000) => c_implShapeOk l (by unfold maxLen; omega) h.ok
  obtain ⟨hc1, hc2, hc3⟩ := hc
  simp only at hc1 hc2 hc3
  obtain ⟨b, hb⟩ : ∃ b, namedB ⟨kd, nm, nw, ⟨cn, ck, c1, c2, ⟨d1, d2, d3⟩⟩⟩ = b := ⟨_, rfl⟩
  rw [hb] at cN
  obtain ⟨r, hr⟩ : ∃ r, chDo s ⟨kd, nm, nw, ⟨cn, ck, c1, c2, ⟨d1, d2, d3⟩⟩⟩ = r := ⟨_, rfl⟩
  unfold shDo
  rw [hr]
  unfold chDo at hr
  rw [hb] at hr
  simp only at hr
  cases b
  · rw [if_pos rfl] at hr
    subst hr
    refine funF_walk hTb Tryz.func155 rfl rfl Tryz.ntmps155 (by simp) (by simp) ?_
    (conv => whnf); repeat' (first
    | (refine And.intro ?_ ?_ <;> ((try intro h) <;> (try simp only [Bool.not_true, Bool.not_false, decide_eq_true_eq, decide_eq_false_iff_not, Int.not_lt, Int.not_le, gt_iff_lt, ge_iff_le] at h) <;> first | exact absurd h Bool.false_ne_true | exact absurd h.symm Bool.false_ne_true | conv => whnf))
    | (refine VL.drawS hTb hMix (by kernel_rfl) (by kernel_rfl) (by kernel_rfl) ?_; conv => whnf)
    | (refine Need.mk ?_; kernel_rfl) | (refine Need.mk ⟨rfl, ?_⟩; decide)
    | (refine VR.pure hTb rfl rfl (o_purN (cN) rfl rfl rfl ⟨rfl, rfl, rfl, rfl⟩ rfl) ?_; conv => whnf)
    | (refine DT.pure hTb rfl (o_purN (cN) rfl rfl rfl ⟨rfl, rfl, rfl, rfl⟩ rfl) ?_; conv => whnf)
    | (refine VR.pure hTb rfl rfl (o_purN (cA) rfl rfl rfl ⟨rfl, rfl, rfl, rfl⟩ rfl) ?_; conv => whnf)
    | (refine DT.pure hTb rfl (o_purN (cA) rfl rfl rfl ⟨rfl, rfl, rfl, rfl⟩ rfl) ?_; conv => whnf)
    | (refine VR.fun hTb rfl rfl (o_funN (c0) false [] (fun h => by cases h) (by simp) rfl rfl rfl rfl rfl ⟨rfl, rfl, rfl, rfl⟩ rfl rfl) ?_; conv => whnf)
    | (refine DT.fun hTb rfl (o_funN (c0) false [] (fun h => by cases h) (by simp) rfl rfl rfl rfl rfl ⟨rfl, rfl, rfl, rfl⟩ rfl rfl) rfl ?_; conv => whnf))
    all_goals exact endW [1036] rfl rfl rfl rfl rfl (LeS.refl _) rfl rfl
  have hk := namedB_kind hb
  simp only at hk
  rw [if_neg (by simp)] at hr
  by_cases hk1 : kd = 1
  · subst hk1
    rw [if_pos rfl] at hr
    by_cases hd : c1 = true ∧ d1 = 0
    · obtain ⟨rfl, rfl⟩ := hd
      rw [if_pos ⟨rfl, rfl⟩] at hr
      subst hr
      refine funF_walk hTb Tryz.func155 rfl rfl Tryz.ntmps155 (by simp) (by simp) ?_
      (conv => whnf); repeat' (first
    | (refine And.intro ?_ ?_ <;> ((try intro h) <;> (try simp only [Bool.not_true, Bool.not_false, decide_eq_true_eq, decide_eq_false_iff_not, Int.not_lt, Int.not_le, gt_iff_lt, ge_iff_le] at h) <;> first | exact absurd h Bool.false_ne_true | exact absurd h.symm Bool.false_ne_true | conv => whnf))
    | (refine VL.drawS hTb hMix (by kernel_rfl) (by kernel_rfl) (by kernel_rfl) ?_; conv => whnf)
    | (refine Need.mk ?_; kernel_rfl) | (refine Need.mk ⟨rfl, ?_⟩; decide)
    | (refine VR.pure hTb rfl rfl (o_purN (cN) rfl rfl rfl ⟨rfl, rfl, rfl, rfl⟩ rfl) ?_; conv => whnf)
    | (refine DT.pure hTb rfl (o_purN (cN) rfl rfl rfl ⟨rfl, rfl, rfl, rfl⟩ rfl) ?_; conv => whnf)
    | (refine VR.pure hTb rfl rfl (o_purN (cA) rfl rfl rfl ⟨rfl, rfl, rfl, rfl⟩ rfl) ?_; conv => whnf)
    | (refine DT.pure hTb rfl (o_purN (cA) rfl rfl rfl ⟨rfl, rfl, rfl, rfl⟩ rfl) ?_; conv => whnf)
    | (refine VR.fun hTb rfl rfl (o_funN (c0) false [] (fun h => by cases h) (by simp) rfl rfl rfl rfl rfl ⟨rfl, rfl, rfl, rfl⟩ rfl rfl) ?_; conv => whnf)
    | (refine DT.fun hTb rfl (o_funN (c0) false [] (fun h => by cases h) (by simp) rfl rfl rfl rfl rfl ⟨rfl, rfl, rfl, rfl⟩ rfl rfl) rfl ?_; conv => whnf))
      all_goals (first
      | rfl
      | exact endW [1036] rfl rfl rfl rfl rfl (LeS.refl _) rfl rfl
      | exact endW [1392] rfl rfl rfl rfl rfl (LeS.refl _) rfl rfl
      | exact endW [1400] rfl rfl rfl rfl rfl (LeS.refl _) rfl rfl
      | trace_state)
    · rw [if_neg hd] at hr
      subst hr
      have hmd : mdCols (s ++ [⟨cn, ck, c1, c2, ⟨d1, d2, d3⟩⟩]) := hs.app hc3
      have cS := hok _ hmd (by simp; omega)
      have cC := c_cloneCol (s ++ [⟨cn, ck, c1, c2, ⟨d1, d2, d3⟩⟩]) (by simp; omega)
      obtain ⟨x, hx⟩ : ∃ x, shapeOk (s ++ [⟨cn, ck, c1, c2, ⟨d1, d2, d3⟩⟩]) = x := ⟨_, rfl⟩
      rw [hx] at cS
      have hr2 : okO s (some (s ++ [⟨cn, ck, c1, c2, ⟨d1, d2, d3⟩⟩])) = if x then (s ++ [⟨cn, ck, c1, c2, ⟨d1, d2, d3⟩⟩], true) else (s, false) := by simp only [okO, hx]
      rw [hr2]
      refine funF_walk hTb Tryz.func155 rfl rfl Tryz.ntmps155 (by simp) (by simp) ?_
      cases x <;> cases c1 <;> (conv => whnf); repeat' (first
    | (refine And.intro ?_ ?_ <;> ((try intro h) <;> (try simp only [Bool.not_true, Bool.not_false, decide_eq_true_eq, decide_eq_false_iff_not, Int.not_lt, Int.not_le, gt_iff_lt, ge_iff_le] at h) <;> first | exact absurd h Bool.false_ne_true | exact absurd h.symm Bool.false_ne_true | conv => whnf))
    | (refine VL.drawS hTb hMix (by kernel_rfl) (by kernel_rfl) (by kernel_rfl) ?_; conv => whnf)
    | (refine Need.mk ?_; kernel_rfl) | (refine Need.mk ⟨rfl, ?_⟩; decide)
    | (refine VR.pure hTb rfl rfl (o_purN (cN) rfl rfl rfl ⟨rfl, rfl, rfl, rfl⟩ rfl) ?_; conv => whnf)
    | (refine DT.pure hTb rfl (o_purN (cN) rfl rfl rfl ⟨rfl, rfl, rfl, rfl⟩ rfl) ?_; conv => whnf)
    | (refine VR.pure hTb rfl rfl (o_purN (cA) rfl rfl rfl ⟨rfl, rfl, rfl, rfl⟩ rfl) ?_; conv => whnf)
    | (refine DT.pure hTb rfl (o_purN (cA) rfl rfl rfl ⟨rfl, rfl, rfl, rfl⟩ rfl) ?_; conv => whnf)
    | (refine VR.fun hTb rfl rfl (o_funN (c0) false [] (fun h => by cases h) (by simp) rfl rfl rfl rfl rfl ⟨rfl, rfl, rfl, rfl⟩ rfl rfl) ?_; conv => whnf)
    | (refine DT.fun hTb rfl (o_funN (c0) false [] (fun h => by cases h) (by simp) rfl rfl rfl rfl rfl ⟨rfl, rfl, rfl, rfl⟩ rfl rfl) rfl ?_; conv => whnf)
    | (refine VR.opk hTb rfl rfl (o_app1 (q := 146) (a := ⟨_, _, _, _, ⟨_, _, _⟩⟩) hTb rfl rfl rfl rfl rfl rfl rfl rfl rfl rfl rfl rfl (by omega) (by show _ * 64 ≤ _; omega) (by unfold maxLen; omega)) ?_; conv => whnf)
    | (refine DT.opk hTb rfl (o_app1 (q := 146) (a := ⟨_, _, _, _, ⟨_, _, _⟩⟩) hTb rfl rfl rfl rfl rfl rfl rfl rfl rfl rfl rfl rfl (by omega) (by show _ * 64 ≤ _; omega) (by unfold maxLen; omega)) ?_; conv => whnf)
    | (refine VR.pure hTb rfl rfl (o_purN (cS) rfl rfl rfl ⟨rfl, rfl, rfl, rfl⟩ (congrArg (fun s => [s]) brw)) ?_; conv => whnf)
    | (refine DT.pure hTb rfl (o_purN (cS) rfl rfl rfl ⟨rfl, rfl, rfl, rfl⟩ (congrArg (fun s => [s]) brw)) ?_; conv => whnf)
    | (refine VR.pure hTb rfl rfl (o_purN (cS) rfl rfl rfl ⟨rfl, rfl, rfl, rfl⟩ (congrArg (fun s => [s]) brw')) ?_; conv => whnf)
    | (refine DT.pure hTb rfl (o_purN (cS) rfl rfl rfl ⟨rfl, rfl, rfl, rfl⟩ (congrArg (fun s => [s]) brw')) ?_; conv => whnf)
    | (refine VR.pure hTb rfl rfl (o_purN (cS) rfl rfl rfl ⟨rfl, rfl, rfl, rfl⟩ (congrArg (fun s => [s]) (brwG (by simp)))) ?_; conv => whnf)
    | (refine DT.pure hTb rfl (o_purN (cS) rfl rfl rfl ⟨rfl, rfl, rfl, rfl⟩ (congrArg (fun s => [s]) (brwG (by simp)))) ?_; conv => whnf)
    | (refine VR.fun hTb rfl rfl (o_funN (cC) true [] (fun _ => grNewCol _ _) (by simp) rfl rfl rfl rfl rfl ⟨rfl, rfl, rfl, rfl⟩ ?_ rfl) ?_; exact congrArg (fun s => [s]) (brwG (by simp)); conv => whnf)
    | (refine DT.fun hTb rfl (o_funN (cC) true [] (fun _ => grNewCol _ _) (by simp) rfl rfl rfl rfl rfl ⟨rfl, rfl, rfl, rfl⟩ ?_ rfl) rfl ?_; exact congrArg (fun s => [s]) (brwG (by simp)); conv => whnf))
      all_goals (first
      | rfl
      | exact endW [1036] rfl rfl rfl rfl rfl (LeS.refl _) rfl rfl
      | exact endW [1392] rfl rfl rfl rfl rfl (LeS.refl _) rfl rfl
      | exact endW [1400] rfl rfl rfl rfl rfl (LeS.refl _) rfl rfl
      | (exfalso; clear cN cA c0 hok cS cC; simp_all; done)
      | trace_state)
  rw [if_neg hk1] at hr
  rcases nameAt_spec s nm with ⟨hn, _⟩ | ⟨j, hj, hn, _⟩
  · rw [hn] at cA hr
    rw [if_pos (by omega)] at hr
    subst hr
    rcases hk with rfl | rfl | rfl | rfl
    · exact absurd rfl hk1
    all_goals
      refine funF_walk hTb Tryz.func155 rfl rfl Tryz.ntmps155 (by simp) (by simp) ?_
      (conv => whnf); repeat' (first
    | (refine And.intro ?_ ?_ <;> ((try intro h) <;> (try simp only [Bool.not_true, Bool.not_false, decide_eq_true_eq, decide_eq_false_iff_not, Int.not_lt, Int.not_le, gt_iff_lt, ge_iff_le] at h) <;> first | exact absurd h Bool.false_ne_true | exact absurd h.symm Bool.false_ne_true | conv => whnf))
    | (refine VL.drawS hTb hMix (by kernel_rfl) (by kernel_rfl) (by kernel_rfl) ?_; conv => whnf)
    | (refine Need.mk ?_; kernel_rfl) | (refine Need.mk ⟨rfl, ?_⟩; decide)
    | ((exfalso; omega))
    | (refine VR.pure hTb rfl rfl (o_purN (cN) rfl rfl rfl ⟨rfl, rfl, rfl, rfl⟩ rfl) ?_; conv => whnf)
    | (refine DT.pure hTb rfl (o_purN (cN) rfl rfl rfl ⟨rfl, rfl, rfl, rfl⟩ rfl) ?_; conv => whnf)
    | (refine VR.pure hTb rfl rfl (o_purN (cA) rfl rfl rfl ⟨rfl, rfl, rfl, rfl⟩ rfl) ?_; conv => whnf)
    | (refine DT.pure hTb rfl (o_purN (cA) rfl rfl rfl ⟨rfl, rfl, rfl, rfl⟩ rfl) ?_; conv => whnf)
    | (refine VR.fun hTb rfl rfl (o_funN (c0) false [] (fun h => by cases h) (by simp) rfl rfl rfl rfl rfl ⟨rfl, rfl, rfl, rfl⟩ rfl rfl) ?_; conv => whnf)
    | (refine DT.fun hTb rfl (o_funN (c0) false [] (fun h => by cases h) (by simp) rfl rfl rfl rfl rfl ⟨rfl, rfl, rfl, rfl⟩ rfl rfl) rfl ?_; conv => whnf))
    all_goals (first
      | rfl
      | exact endW [1036] rfl rfl rfl rfl rfl (LeS.refl _) rfl rfl
      | exact endW [1392] rfl rfl rfl rfl rfl (LeS.refl _) rfl rfl
      | exact endW [1400] rfl rfl rfl rfl rfl (LeS.refl _) rfl rfl
      | trace_state)
  rw [hn] at cA hr
  rw [if_neg (by omega), Int.toNat_natCast] at hr
  have eg : s.getD j (kCol 0) = s[j] := by simp [List.getD, hj]
  rw [eg] at hr
  have hmj : s[j].md := hs _ (List.getElem_mem hj)
  have hrow : s[0 + ((j : Nat) : Int).toNat]? = some s[j] := by rw [Int.toNat_natCast, Nat.zero_add, List.getElem?_eq_getElem hj]
  have hset : ∀ v : Col, s.set j v = s.set (0 + ((j : Nat) : Int).toNat) v := fun v => by rw [Int.toNat_natCast, Nat.zero_add]
  have ew : IntKind.i64.wrap ((j : Int) + 1) = ((j + 1 : Nat) : Int) := by rw [IntKind.wrap_i64]; omega
  rcases hk with rfl | rfl | rfl | rfl
  · exact absurd rfl hk1
  · -- taken out
    rw [if_pos rfl] at hr
    subst hr
    have hmd : mdCols (s.eraseIdx j) := hs.erase
    have hlen : (s.eraseIdx j).length ≤ s.length := List.length_eraseIdx_le _ _
    have cS := hok _ hmd (by omega)
    have cC := c_cloneCol (s.eraseIdx j) (by omega)
    have cD := c_DeleteCol s j hj (by omega)
    obtain ⟨x, hx⟩ : ∃ x, shapeOk (s.eraseIdx j) = x := ⟨_, rfl⟩
    rw [hx] at cS
    have hr2 : okO s (some (s.eraseIdx j)) = if x then (s.eraseIdx j, true) else (s, false) := by simp only [okO, hx]
    rw [hr2]
    refine funF_walk hTb Tryz.func155 rfl rfl Tryz.ntmps155 (by simp) (by simp) ?_
    cases x <;> (conv => whnf); repeat' (first
    | (refine And.intro ?_ ?_ <;> ((try intro h) <;> (try simp only [Bool.not_true, Bool.not_false, decide_eq_true_eq, decide_eq_false_iff_not, Int.not_lt, Int.not_le, gt_iff_lt, ge_iff_le] at h) <;> first | exact absurd h Bool.false_ne_true | exact absurd h.symm Bool.false_ne_true | conv => whnf))
    | (refine VL.drawS hTb hMix (by kernel_rfl) (by kernel_rfl) (by kernel_rfl) ?_; conv => whnf)
    | (refine Need.mk ?_; kernel_rfl) | (refine Need.mk ⟨rfl, ?_⟩; decide)
    | ((exfalso; omega))
    | (refine VR.pure hTb rfl rfl (o_purN (cN) rfl rfl rfl ⟨rfl, rfl, rfl, rfl⟩ rfl) ?_; conv => whnf)
    | (refine DT.pure hTb rfl (o_purN (cN) rfl rfl rfl ⟨rfl, rfl, rfl, rfl⟩ rfl) ?_; conv => whnf)
    | (refine VR.pure hTb rfl rfl (o_purN (cA) rfl rfl rfl ⟨rfl, rfl, rfl, rfl⟩ rfl) ?_; conv => whnf)
    | (refine DT.pure hTb rfl (o_purN (cA) rfl rfl rfl ⟨rfl, rfl, rfl, rfl⟩ rfl) ?_; conv => whnf)
    | (refine VR.fun hTb rfl rfl (o_funN (c0) false [] (fun h => by cases h) (by simp) rfl rfl rfl rfl rfl ⟨rfl, rfl, rfl, rfl⟩ rfl rfl) ?_; conv => whnf)
    | (refine DT.fun hTb rfl (o_funN (c0) false [] (fun h => by cases h) (by simp) rfl rfl rfl rfl rfl ⟨rfl, rfl, rfl, rfl⟩ rfl rfl) rfl ?_; conv => whnf)
    | (refine VR.fun hTb rfl rfl (o_funN cD false [1036] (fun h => by cases h) (by simp) rfl rfl rfl rfl rfl ⟨rfl, rfl, rfl, rfl⟩ ?_ rfl) ?_; exact congrArg (fun x => [Slot.one (.own 0 0 s.length), iS j, .one (.g (.int .i64 x))]) ew; conv => whnf)
    | (refine VR.pure hTb rfl rfl (o_purN cS rfl rfl rfl ⟨rfl, rfl, rfl, rfl⟩ ?_) ?_; exact congrArg (fun s => [s]) (brwE hj _); conv => whnf)
    | (refine VR.fun hTb rfl rfl (o_funN (cC) true [] (fun _ => grNewCol _ _) (by simp) rfl rfl rfl rfl rfl ⟨rfl, rfl, rfl, rfl⟩ ?_ rfl) ?_; exact congrArg (fun s => [s]) (brwE hj _); conv => whnf)
    | (refine DT.fun hTb rfl (o_funN (cC) true [] (fun _ => grNewCol _ _) (by simp) rfl rfl rfl rfl rfl ⟨rfl, rfl, rfl, rfl⟩ ?_ rfl) rfl ?_; exact congrArg (fun s => [s]) (brwE hj _); conv => whnf))
    all_goals (first
      | rfl
      | exact endW [1036] rfl rfl rfl rfl rfl (LeS.refl _) rfl rfl
      | exact endW [1392] rfl rfl rfl rfl rfl (LeS.refl _) rfl rfl
      | exact endW [1400] rfl rfl rfl rfl rfl (LeS.refl _) rfl rfl
      | trace_state)
  · -- named otherwise
    rw [if_neg (by omega), if_pos rfl, hset] at hr
    generalize s[j] = sj at hrow hr hmj
    obtain ⟨x1, x2, x3, x4, ⟨x5, x6, x7⟩⟩ := sj
    subst hr
    have hmd : mdCols (s.set (0 + ((j : Nat) : Int).toNat) (ccName ⟨x1, x2, x3, x4, ⟨x5, x6, x7⟩⟩ nw)) := hs.set ⟨hc2, hmj.2⟩
    simp only [ccName] at hmd ⊢
    have cS := hok _ hmd (by simp; omega)
    have cC := c_cloneCol (s.set (0 + ((j : Nat) : Int).toNat) ⟨nw, x2, x3, x4, ⟨x5, x6, x7⟩⟩) (by simp; omega)
    obtain ⟨x, hx⟩ : ∃ x, shapeOk (s.set (0 + ((j : Nat) : Int).toNat) ⟨nw, x2, x3, x4, ⟨x5, x6, x7⟩⟩) = x := ⟨_, rfl⟩
    rw [hx] at cS
    have hr2 : okO s (some (s.set (0 + ((j : Nat) : Int).toNat) ⟨nw, x2, x3, x4, ⟨x5, x6, x7⟩⟩)) = if x then (s.set (0 + ((j : Nat) : Int).toNat) ⟨nw, x2, x3, x4, ⟨x5, x6, x7⟩⟩, true) else (s, false) := by simp only [okO, hx]
    rw [hr2]
    refine funF_walk hTb Tryz.func155 rfl rfl Tryz.ntmps155 (by simp) (by simp) ?_
    cases x <;> (conv => whnf); repeat' (first
    | (refine And.intro ?_ ?_ <;> ((try intro h) <;> (try simp only [Bool.not_true, Bool.not_false, decide_eq_true_eq, decide_eq_false_iff_not, Int.not_lt, Int.not_le, gt_iff_lt, ge_iff_le] at h) <;> first | exact absurd h Bool.false_ne_true | exact absurd h.symm Bool.false_ne_true | conv => whnf))
    | (refine VL.drawS hTb hMix (by kernel_rfl) (by kernel_rfl) (by kernel_rfl) ?_; conv => whnf)
    | (refine Need.mk ?_; kernel_rfl) | (refine Need.mk ⟨rfl, ?_⟩; decide)
    | ((exfalso; omega))
    | (refine VR.pure hTb rfl rfl (o_purN (cN) rfl rfl rfl ⟨rfl, rfl, rfl, rfl⟩ rfl) ?_; conv => whnf)
    | (refine DT.pure hTb rfl (o_purN (cN) rfl rfl rfl ⟨rfl, rfl, rfl, rfl⟩ rfl) ?_; conv => whnf)
    | (refine VR.pure hTb rfl rfl (o_purN (cA) rfl rfl rfl ⟨rfl, rfl, rfl, rfl⟩ rfl) ?_; conv => whnf)
    | (refine DT.pure hTb rfl (o_purN (cA) rfl rfl rfl ⟨rfl, rfl, rfl, rfl⟩ rfl) ?_; conv => whnf)
    | (refine VR.fun hTb rfl rfl (o_funN (c0) false [] (fun h => by cases h) (by simp) rfl rfl rfl rfl rfl ⟨rfl, rfl, rfl, rfl⟩ rfl rfl) ?_; conv => whnf)
    | (refine DT.fun hTb rfl (o_funN (c0) false [] (fun h => by cases h) (by simp) rfl rfl rfl rfl rfl ⟨rfl, rfl, rfl, rfl⟩ rfl rfl) rfl ?_; conv => whnf)
    | (refine Need.mk ?_; exact ⟨rfl, by omega, by omega⟩)
    | (refine VR.op hTb rfl rfl (o_storeM hTb rfl rfl rfl rfl rfl (hrow) rfl rfl rfl ⟨rfl, by decide⟩ (c' := ⟨_, _, _, _, ⟨_, _, _⟩⟩) rfl) rfl ?_; conv => whnf)
    | (refine DT.op hTb rfl (o_storeM hTb rfl rfl rfl rfl rfl (hrow) rfl rfl rfl ⟨rfl, by decide⟩ (c' := ⟨_, _, _, _, ⟨_, _, _⟩⟩) rfl) rfl ?_; conv => whnf)
    | (refine VR.pure hTb rfl rfl (o_purN cS rfl rfl rfl ⟨rfl, rfl, rfl, rfl⟩ ?_) ?_; exact congrArg (fun s => [s]) (brwG (by simp)); conv => whnf)
    | (refine VR.fun hTb rfl rfl (o_funN (cC) true [] (fun _ => grNewCol _ _) (by simp) rfl rfl rfl rfl rfl ⟨rfl, rfl, rfl, rfl⟩ ?_ rfl) ?_; exact congrArg (fun s => [s]) (brwG (by simp)); conv => whnf)
    | (refine DT.fun hTb rfl (o_funN (cC) true [] (fun _ => grNewCol _ _) (by simp) rfl rfl rfl rfl rfl ⟨rfl, rfl, rfl, rfl⟩ ?_ rfl) rfl ?_; exact congrArg (fun s => [s]) (brwG (by simp)); conv => whnf))
    all_goals (first
      | rfl
      | exact endW [1036] rfl rfl rfl rfl rfl (LeS.refl _) rfl rfl
      | exact endW [1392] rfl rfl rfl rfl rfl (LeS.refl _) rfl rfl
      | exact endW [1400] rfl rfl rfl rfl rfl (LeS.refl _) rfl rfl
      | trace_state)
  · -- of another kind
    rw [if_neg (by omega), if_neg (by omega), hset] at hr
    generalize s[j] = sj at hrow hr hmj
    obtain ⟨x1, x2, x3, x4, ⟨x5, x6, x7⟩⟩ := sj
    have cV := c_implValAs x5 x6 x7 ck (by have := hmj.2; simp only at this; omega)
    obtain ⟨⟨y1, y2, y3⟩, hy⟩ : ∃ y, valAs ⟨x5, x6, x7⟩ ck = y := ⟨_, rfl⟩
    have hys := valAs_size ⟨x5, x6, x7⟩ ck
    rw [hy] at cV hys
    by_cases he : ck = x2
    · rw [if_pos he] at hr
      subst he
      subst hr
      refine funF_walk hTb Tryz.func155 rfl rfl Tryz.ntmps155 (by simp) (by simp) ?_
      (conv => whnf); repeat' (first
    | (refine And.intro ?_ ?_ <;> ((try intro h) <;> (try simp only [Bool.not_true, Bool.not_false, decide_eq_true_eq, decide_eq_false_iff_not, Int.not_lt, Int.not_le, gt_iff_lt, ge_iff_le] at h) <;> first | exact absurd h Bool.false_ne_true | exact absurd h.symm Bool.false_ne_true | conv => whnf))
    | (refine VL.drawS hTb hMix (by kernel_rfl) (by kernel_rfl) (by kernel_rfl) ?_; conv => whnf)
    | (refine Need.mk ?_; kernel_rfl) | (refine Need.mk ⟨rfl, ?_⟩; decide)
    | ((exfalso; omega))
    | (refine VR.pure hTb rfl rfl (o_purN (cN) rfl rfl rfl ⟨rfl, rfl, rfl, rfl⟩ rfl) ?_; conv => whnf)
    | (refine DT.pure hTb rfl (o_purN (cN) rfl rfl rfl ⟨rfl, rfl, rfl, rfl⟩ rfl) ?_; conv => whnf)
    | (refine VR.pure hTb rfl rfl (o_purN (cA) rfl rfl rfl ⟨rfl, rfl, rfl, rfl⟩ rfl) ?_; conv => whnf)
    | (refine DT.pure hTb rfl (o_purN (cA) rfl rfl rfl ⟨rfl, rfl, rfl, rfl⟩ rfl) ?_; conv => whnf)
    | (refine VR.fun hTb rfl rfl (o_funN (c0) false [] (fun h => by cases h) (by simp) rfl rfl rfl rfl rfl ⟨rfl, rfl, rfl, rfl⟩ rfl rfl) ?_; conv => whnf)
    | (refine DT.fun hTb rfl (o_funN (c0) false [] (fun h => by cases h) (by simp) rfl rfl rfl rfl rfl ⟨rfl, rfl, rfl, rfl⟩ rfl rfl) rfl ?_; conv => whnf)
    | (refine Need.mk ?_; exact ⟨rfl, by omega, by omega⟩)
    | (refine VR.op hTb rfl rfl (o_loadM hTb rfl rfl rfl rfl (hrow) ⟨by decide, by decide⟩) rfl ?_; conv => whnf)
    | (refine DT.op hTb rfl (o_loadM hTb rfl rfl rfl rfl (hrow) ⟨by decide, by decide⟩) rfl ?_; conv => whnf))
      all_goals (first
        | exact endW [1036] rfl rfl rfl rfl rfl (LeS.refl _) rfl rfl
        | (exfalso; clear cN cA c0 hok cV; simp_all; done)
        | trace_state)
    · rw [if_neg he] at hr
      simp only [ccKind, hy] at hr
      have hrow2 : (s.set (0 + ((j : Nat) : Int).toNat) ⟨x1, ck, x3, x4, ⟨x5, x6, x7⟩⟩)[0 + ((j : Nat) : Int).toNat]? = some ⟨x1, ck, x3, x4, ⟨x5, x6, x7⟩⟩ := by rw [Int.toNat_natCast, Nat.zero_add, List.getElem?_set_self hj]
      have e2 : s.set (0 + ((j : Nat) : Int).toNat) ⟨x1, ck, x3, x4, ⟨y1, y2, y3⟩⟩ = (s.set (0 + ((j : Nat) : Int).toNat) ⟨x1, ck, x3, x4, ⟨x5, x6, x7⟩⟩).set (0 + ((j : Nat) : Int).toNat) ⟨x1, ck, x3, x4, ⟨y1, y2, y3⟩⟩ := by rw [List.set_set]
      subst hr
      have hmd : mdCols (s.set (0 + ((j : Nat) : Int).toNat) ⟨x1, ck, x3, x4, ⟨y1, y2, y3⟩⟩) := hs.set ⟨hmj.1, by simp only at hys ⊢; omega⟩
      have cS := hok _ hmd (by simp; omega)
      have cC := c_cloneCol (s.set (0 + ((j : Nat) : Int).toNat) ⟨x1, ck, x3, x4, ⟨y1, y2, y3⟩⟩) (by simp; omega)
      obtain ⟨x, hx⟩ : ∃ x, shapeOk (s.set (0 + ((j : Nat) : Int).toNat) ⟨x1, ck, x3, x4, ⟨y1, y2, y3⟩⟩) = x := ⟨_, rfl⟩
      rw [hx] at cS
      have hr2 : okO s (some (s.set (0 + ((j : Nat) : Int).toNat) ⟨x1, ck, x3, x4, ⟨y1, y2, y3⟩⟩)) = if x then (s.set (0 + ((j : Nat) : Int).toNat) ⟨x1, ck, x3, x4, ⟨y1, y2, y3⟩⟩, true) else (s, false) := by simp only [okO, hx]
      rw [hr2]
      rw [e2] at cS cC
      rw [e2]
      refine funF_walk hTb Tryz.func155 rfl rfl Tryz.ntmps155 (by simp) (by simp) ?_
      cases x <;> (conv => whnf); repeat' (first
    | (refine And.intro ?_ ?_ <;> ((try intro h) <;> (try simp only [Bool.not_true, Bool.not_false, decide_eq_true_eq, decide_eq_false_iff_not, Int.not_lt, Int.not_le, gt_iff_lt, ge_iff_le] at h) <;> first | exact absurd h Bool.false_ne_true | exact absurd h.symm Bool.false_ne_true | conv => whnf))
    | (refine VL.drawS hTb hMix (by kernel_rfl) (by kernel_rfl) (by kernel_rfl) ?_; conv => whnf)
    | (refine Need.mk ?_; kernel_rfl) | (refine Need.mk ⟨rfl, ?_⟩; decide)
    | ((exfalso; omega))
    | (refine VR.pure hTb rfl rfl (o_purN (cN) rfl rfl rfl ⟨rfl, rfl, rfl, rfl⟩ rfl) ?_; conv => whnf)
    | (refine DT.pure hTb rfl (o_purN (cN) rfl rfl rfl ⟨rfl, rfl, rfl, rfl⟩ rfl) ?_; conv => whnf)
    | (refine VR.pure hTb rfl rfl (o_purN (cA) rfl rfl rfl ⟨rfl, rfl, rfl, rfl⟩ rfl) ?_; conv => whnf)
    | (refine DT.pure hTb rfl (o_purN (cA) rfl rfl rfl ⟨rfl, rfl, rfl, rfl⟩ rfl) ?_; conv => whnf)
    | (refine VR.fun hTb rfl rfl (o_funN (c0) false [] (fun h => by cases h) (by simp) rfl rfl rfl rfl rfl ⟨rfl, rfl, rfl, rfl⟩ rfl rfl) ?_; conv => whnf)
    | (refine DT.fun hTb rfl (o_funN (c0) false [] (fun h => by cases h) (by simp) rfl rfl rfl rfl rfl ⟨rfl, rfl, rfl, rfl⟩ rfl rfl) rfl ?_; conv => whnf)
    | (refine Need.mk ?_; exact ⟨rfl, by omega, by omega⟩)
    | (refine VR.op hTb rfl rfl (o_loadM hTb rfl rfl rfl rfl (hrow) ⟨by decide, by decide⟩) rfl ?_; conv => whnf)
    | (refine DT.op hTb rfl (o_loadM hTb rfl rfl rfl rfl (hrow) ⟨by decide, by decide⟩) rfl ?_; conv => whnf)
    | (refine VR.op hTb rfl rfl (o_storeM hTb rfl rfl rfl rfl rfl (hrow) rfl rfl rfl ⟨rfl, by decide⟩ (c' := ⟨_, _, _, _, ⟨_, _, _⟩⟩) rfl) rfl ?_; conv => whnf)
    | (refine DT.op hTb rfl (o_storeM hTb rfl rfl rfl rfl rfl (hrow) rfl rfl rfl ⟨rfl, by decide⟩ (c' := ⟨_, _, _, _, ⟨_, _, _⟩⟩) rfl) rfl ?_; conv => whnf)
    | (refine VR.pure hTb rfl rfl (o_purN (cV) rfl rfl rfl ⟨rfl, rfl, rfl, rfl⟩ rfl) ?_; conv => whnf)
    | (refine DT.pure hTb rfl (o_purN (cV) rfl rfl rfl ⟨rfl, rfl, rfl, rfl⟩ rfl) ?_; conv => whnf)
    | (refine VR.op hTb rfl rfl (o_storeM hTb rfl rfl rfl rfl rfl (hrow2) rfl rfl rfl ⟨rfl, by decide⟩ (c' := ⟨_, _, _, _, ⟨_, _, _⟩⟩) rfl) rfl ?_; conv => whnf)
    | (refine DT.op hTb rfl (o_storeM hTb rfl rfl rfl rfl rfl (hrow2) rfl rfl rfl ⟨rfl, by decide⟩ (c' := ⟨_, _, _, _, ⟨_, _, _⟩⟩) rfl) rfl ?_; conv => whnf)
    | (refine VR.pure hTb rfl rfl (o_purN cS rfl rfl rfl ⟨rfl, rfl, rfl, rfl⟩ ?_) ?_; exact congrArg (fun s => [s]) (brwG (by simp)); conv => whnf)
    | (refine VR.fun hTb rfl rfl (o_funN (cC) true [] (fun _ => grNewCol _ _) (by simp) rfl rfl rfl rfl rfl ⟨rfl, rfl, rfl, rfl⟩ ?_ rfl) ?_; exact congrArg (fun s => [s]) (brwG (by simp)); conv => whnf)
    | (refine DT.fun hTb rfl (o_funN (cC) true [] (fun _ => grNewCol _ _) (by simp) rfl rfl rfl rfl rfl ⟨rfl, rfl, rfl, rfl⟩ ?_ rfl) rfl ?_; exact congrArg (fun s => [s]) (brwG (by simp)); conv => whnf))
      all_goals (first
        | rfl
        | exact endW [1392] rfl rfl rfl rfl rfl (LeS.refl _) rfl rfl
        | exact endW [1400] rfl rfl rfl rfl rfl (LeS.refl _) rfl rfl
        | (exfalso; clear cN cA c0 hok cV cS cC; simp_all; done)
        | trace_state)
end Go.Vl
