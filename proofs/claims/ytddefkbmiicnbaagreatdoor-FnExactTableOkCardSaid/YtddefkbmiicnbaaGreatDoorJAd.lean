/- Contracts: a value as one of another kind. Contracts: a change of columns: what it names. Contracts: a value read from its text. The plain laws of values: what is turned into another kind, and what is read. Contracts: columns behind a change. -/
import Derived.Test.YtddefkbmiicnbaaGreatDoorJAc
set_option linter.unusedSimpArgs false
set_option linter.unusedVariables false

namespace Go.Vl
open Go Go.RowKit Go.Proofs
set_option maxRecDepth 100000
set_option linter.unusedSimpArgs false
set_option linter.unusedVariables false
set_option maxHeartbeats 800000

def valAs (v : Val) (kd : Int) : Val := if valOk v = true ∧ (kd = 1 ∨ kd = 2) ∧ v.k ≠ 0 then (if v.k = kd then v else if kd = 2 then ⟨2, 0, bl (Lib.itoa v.n)⟩ else numV v.t) else ⟨0, 0, ⟨#[]⟩⟩
theorem c_implValAs (k n : Int) (t : ByteArray) (kd : Int) (hv : t.size ≤ 281474976710656) : CallsV Tryz.prog 211 [.agg (encVal ⟨k, n, t⟩), iS kd] [] (pureQ (.agg (encVal (valAs ⟨k, n, t⟩ kd)))) := by
  have c1 := c_implValOk ⟨k, n, t⟩ (show t.size ≤ maxLen by unfold maxLen; omega)
  obtain ⟨b, hb⟩ : ∃ b, valOk ⟨k, n, t⟩ = b := ⟨_, rfl⟩
  rw [hb] at c1
  have hr : b = true → -999 ≤ n ∧ n ≤ 999 := fun e => by
    have h := hb.trans e
    unfold valOk at h
    simp only at h
    split at h
    · simp at h; omega
    · split at h
      · simp at h; omega
      · split at h
        · simp at h; omega
        · cases h
  have c2 : b = true → CallsV Tryz.prog 231 [iS n] [] (pureQ (strS (bl (Lib.itoa n)))) := fun e => by
    have := hr e
    exact c_Itoa n (by omega) (by omega)
  have c3 := c_numVal t hv
  obtain ⟨⟨a1, a2, a3⟩, ha⟩ : ∃ x, numV t = x := ⟨_, rfl⟩
  rw [ha] at c3
  refine pure_walk hTb Tryz.func211 rfl rfl Tryz.ntmps211 (by simp) ?_
  cases b <;> (conv => whnf); repeat' (first
    | (refine And.intro ?_ ?_ <;> ((try intro h) <;> (try simp only [Bool.not_true, Bool.not_false, decide_eq_true_eq, decide_eq_false_iff_not, Int.not_lt, Int.not_le, gt_iff_lt, ge_iff_le] at h) <;> first | exact absurd h Bool.false_ne_true | exact absurd h.symm Bool.false_ne_true | conv => whnf))
    | (refine VL.drawS hTb hMix (by kernel_rfl) (by kernel_rfl) (by kernel_rfl) ?_; conv => whnf)
    | (refine Need.mk ?_; kernel_rfl) | (refine Need.mk ⟨rfl, ?_⟩; decide)
    | (refine VR.pure hTb rfl rfl (o_purN (c1) rfl rfl rfl ⟨rfl, rfl, rfl, rfl⟩ rfl) ?_; conv => whnf)
    | (refine DT.pure hTb rfl (o_purN (c1) rfl rfl rfl ⟨rfl, rfl, rfl, rfl⟩ rfl) ?_; conv => whnf)
    | (refine VR.pure hTb rfl rfl (o_purN (c2 rfl) rfl rfl rfl ⟨rfl, rfl, rfl, rfl⟩ rfl) ?_; conv => whnf)
    | (refine DT.pure hTb rfl (o_purN (c2 rfl) rfl rfl rfl ⟨rfl, rfl, rfl, rfl⟩ rfl) ?_; conv => whnf)
    | (refine VR.pure hTb rfl rfl (o_purN (c3) rfl rfl rfl ⟨rfl, rfl, rfl, rfl⟩ rfl) ?_; conv => whnf)
    | (refine DT.pure hTb rfl (o_purN (c3) rfl rfl rfl ⟨rfl, rfl, rfl, rfl⟩ rfl) ?_; conv => whnf)
    | (refine VR.pure hTb rfl rfl (o_purN (c_in _ _ _) rfl rfl rfl ⟨rfl, rfl, rfl, rfl⟩ rfl) ?_; conv => whnf)
    | (refine DT.pure hTb rfl (o_purN (c_in _ _ _) rfl rfl rfl ⟨rfl, rfl, rfl, rfl⟩ rfl) ?_; conv => whnf))
  all_goals (try simp only [Bool.not_eq_true', Bool.not_eq_false', Bool.and_eq_true, Bool.and_eq_false_iff, decide_eq_true_eq, decide_eq_false_iff_not, beq_iff_eq, beq_eq_false_iff_ne, ne_eq] at *)
  all_goals
    show _ = Slot.agg (encVal (if valOk ⟨k, n, t⟩ = true ∧ (kd = 1 ∨ kd = 2) ∧ k ≠ 0 then (if k = kd then ⟨k, n, t⟩ else if kd = 2 then ⟨2, 0, bl (Lib.itoa n)⟩ else numV t) else ⟨0, 0, ⟨#[]⟩⟩))
    (repeat' split) <;> first
      | rfl
      | (exfalso; simp_all; done)
      | (exfalso; omega)
      | (exfalso; simp_all; omega)
      | (rw [ha]; rfl)
theorem numS_eq (o : Option Int) : ∃ x b, numS o = .tup [(false, [.g (.int .i64 x)]), (false, [.g (.bool b)])] ∧ (b = true → o = some x) ∧ (b = false → o = none) := by
  cases o with
  | none => exact ⟨0, false, rfl, (fun e => by cases e), fun _ => rfl⟩
  | some x => exact ⟨x, true, rfl, fun _ => rfl, fun e => by cases e⟩
theorem c_specValAs (k n : Int) (t : ByteArray) (kd : Int) (hv : t.size ≤ maxLen) : CallsV Tryz.prog 228 [.agg (encVal ⟨k, n, t⟩), iS kd] [] (pureQ (.agg (encVal (valAs ⟨k, n, t⟩ kd)))) := by
  have c1 := c_specValOk ⟨k, n, t⟩ hv
  obtain ⟨b, hb⟩ : ∃ b, valOk ⟨k, n, t⟩ = b := ⟨_, rfl⟩
  rw [hb] at c1
  have hr : b = true → -999 ≤ n ∧ n ≤ 999 := fun e => by
    have h := hb.trans e
    unfold valOk at h
    simp only at h
    split at h
    · simp at h; omega
    · split at h
      · simp at h; omega
      · split at h
        · simp at h; omega
        · cases h
  have c2 : b = true → CallsV Tryz.prog 242 [iS n] [] (pureQ (strS (bl (Lib.itoa n)))) := fun e => by
    have := hr e
    exact c_l10Dec n (by omega) (by omega)
  have c3 := c_l10Num t hv
  obtain ⟨x, y, h1, h2, h3⟩ := numS_eq (numOf t.data.toList)
  rw [h1] at c3
  refine pure_walk hTb Tryz.func228 rfl rfl Tryz.ntmps228 (by simp) ?_
  cases b <;> cases y <;> (conv => whnf); repeat' (first
    | (refine And.intro ?_ ?_ <;> ((try intro h) <;> (try simp only [Bool.not_true, Bool.not_false, decide_eq_true_eq, decide_eq_false_iff_not, Int.not_lt, Int.not_le, gt_iff_lt, ge_iff_le] at h) <;> first | exact absurd h Bool.false_ne_true | exact absurd h.symm Bool.false_ne_true | conv => whnf))
    | (refine VL.drawS hTb hMix (by kernel_rfl) (by kernel_rfl) (by kernel_rfl) ?_; conv => whnf)
    | (refine Need.mk ?_; kernel_rfl) | (refine Need.mk ⟨rfl, ?_⟩; decide)
    | (refine VR.pure hTb rfl rfl (o_purN (c1) rfl rfl rfl ⟨rfl, rfl, rfl, rfl⟩ rfl) ?_; conv => whnf)
    | (refine DT.pure hTb rfl (o_purN (c1) rfl rfl rfl ⟨rfl, rfl, rfl, rfl⟩ rfl) ?_; conv => whnf)
    | (refine VR.pure hTb rfl rfl (o_purN (c2 rfl) rfl rfl rfl ⟨rfl, rfl, rfl, rfl⟩ rfl) ?_; conv => whnf)
    | (refine DT.pure hTb rfl (o_purN (c2 rfl) rfl rfl rfl ⟨rfl, rfl, rfl, rfl⟩ rfl) ?_; conv => whnf)
    | (refine VR.pure hTb rfl rfl (o_purN (c3) rfl rfl rfl ⟨rfl, rfl, rfl, rfl⟩ rfl) ?_; conv => whnf)
    | (refine DT.pure hTb rfl (o_purN (c3) rfl rfl rfl ⟨rfl, rfl, rfl, rfl⟩ rfl) ?_; conv => whnf)
    | (refine VR.pure hTb rfl rfl (o_purN (c_l1Num _) rfl rfl rfl ⟨rfl, rfl, rfl, rfl⟩ rfl) ?_; conv => whnf)
    | (refine DT.pure hTb rfl (o_purN (c_l1Num _) rfl rfl rfl ⟨rfl, rfl, rfl, rfl⟩ rfl) ?_; conv => whnf))
  all_goals simp only [beq_iff_eq, beq_eq_false_iff_ne, ne_eq, Bool.and_eq_true, decide_eq_true_eq, Bool.and_eq_false_iff, decide_eq_false_iff_not] at *
  all_goals
    show _ = Slot.agg (encVal (if valOk ⟨k, n, t⟩ = true ∧ (kd = 1 ∨ kd = 2) ∧ k ≠ 0 then (if k = kd then ⟨k, n, t⟩ else if kd = 2 then ⟨2, 0, bl (Lib.itoa n)⟩ else numV t) else ⟨0, 0, ⟨#[]⟩⟩))
    (repeat' split) <;> first
      | rfl
      | (exfalso; simp_all; done)
      | (exfalso; omega)
      | (exfalso; simp_all; omega)
      | (unfold numV; simp_all; done)
      | (simp_all [encVal]; done)
      | (unfold numV; simp_all; split <;> first | rfl | (exfalso; omega))
      | (unfold numV; simp_all; rfl)
end Go.Vl

namespace Go.Vl
open Go Go.RowKit Go.Proofs
set_option maxRecDepth 100000
set_option linter.unusedSimpArgs false
set_option linter.unusedVariables false
set_option maxHeartbeats 2000000

def kCol (k : Int) : Col := ⟨⟨#[]⟩, k, false, false, ⟨0, 0, ⟨#[]⟩⟩⟩
def namedB (c : Change) : Bool :=
  if c.kind = 1 then (⟨#[]⟩ : ByteArray).toList == c.name.toList && (⟨#[]⟩ : ByteArray).toList == c.new.toList
  else if c.kind = 2 then (⟨#[]⟩ : ByteArray).toList == c.new.toList && q_Col (kCol 0) c.col
  else if c.kind = 3 then q_Col (kCol 0) c.col
  else if c.kind = 4 then (⟨#[]⟩ : ByteArray).toList == c.new.toList && q_Col (kCol c.col.kind) c.col
  else false
theorem c_named (c : Change) : CallsV Tryz.prog 209 [.agg (encChange c)] [] (pureQ (bS (namedB c))) := by
  obtain ⟨kd, nm, nw, ⟨cn, ck, c1, c2, ⟨d1, d2, d3⟩⟩⟩ := c
  refine pure_walk hTb Tryz.func209 rfl rfl Tryz.ntmps209 (by simp) ?_
  (conv => whnf); repeat' (first
    | (refine And.intro ?_ ?_ <;> ((try intro h) <;> (try simp only [Bool.not_true, Bool.not_false, decide_eq_true_eq, decide_eq_false_iff_not, Int.not_lt, Int.not_le, gt_iff_lt, ge_iff_le] at h) <;> first | exact absurd h Bool.false_ne_true | exact absurd h.symm Bool.false_ne_true | conv => whnf))
    | (refine VL.drawS hTb hMix (by kernel_rfl) (by kernel_rfl) (by kernel_rfl) ?_; conv => whnf)
    | (refine Need.mk ?_; kernel_rfl) | (refine Need.mk ⟨rfl, ?_⟩; decide)
    | (fail))
  all_goals simp only [bS, namedB, beq_iff_eq, beq_eq_false_iff_ne, ne_eq] at *
  all_goals first
    | (rw [if_pos (by assumption)]; simp; done)
    | (rw [if_neg (by assumption), if_pos (by assumption)]; simp [q_Col, q_Val, kCol]; done)
    | (rw [if_neg (by assumption), if_neg (by assumption), if_pos (by assumption)]; simp [q_Col, q_Val, kCol]; done)
    | (rw [if_neg (by assumption), if_neg (by assumption), if_neg (by assumption), if_pos (by assumption)]; simp [q_Col, q_Val, kCol]; done)
    | (rw [if_neg (by assumption), if_neg (by assumption), if_neg (by assumption), if_neg (by assumption)]; done)
theorem c_l2Rest (c : Change) : CallsV Tryz.prog 226 [.agg (encChange c)] [] (pureQ (.agg (encCol (kCol (if c.kind = 4 then c.col.kind else 0))))) := by
  obtain ⟨kd, nm, nw, ⟨cn, ck, c1, c2, ⟨d1, d2, d3⟩⟩⟩ := c
  refine pure_walk hTb Tryz.func226 rfl rfl Tryz.ntmps226 (by simp) ?_
  (conv => whnf); repeat' (first
    | (refine And.intro ?_ ?_ <;> ((try intro h) <;> (try simp only [Bool.not_true, Bool.not_false, decide_eq_true_eq, decide_eq_false_iff_not, Int.not_lt, Int.not_le, gt_iff_lt, ge_iff_le] at h) <;> first | exact absurd h Bool.false_ne_true | exact absurd h.symm Bool.false_ne_true | conv => whnf))
    | (refine VL.drawS hTb hMix (by kernel_rfl) (by kernel_rfl) (by kernel_rfl) ?_; conv => whnf)
    | (refine Need.mk ?_; kernel_rfl) | (refine Need.mk ⟨rfl, ?_⟩; decide)
    | (fail))
  all_goals simp only [beq_iff_eq, beq_eq_false_iff_ne, ne_eq] at *
  · rw [if_pos (by assumption)]; rfl
  · rw [if_neg (by assumption)]; rfl
theorem c_l2Cut (l : List Col) (k : Nat) (hk : k < l.length) (hl : l.length ≤ 2000000) : CallsV Tryz.prog 227 [colsI l, iS k] [] (funQ (.one (.own 0 0 (l.length - 1))) [] [.arr 49 7 ((l.eraseIdx k).map encCol)]) := by
  have e1 : (l.take k).length = k := by simp; omega
  have e2 : (l.drop (k + 1)).length = l.length - (k + 1) := by simp
  have ew : IntKind.i64.wrap ((k : Int) + 1) = ((k + 1 : Nat) : Int) := by rw [IntKind.wrap_i64]; omega
  refine funF_walk hTb Tryz.func227 rfl rfl Tryz.ntmps227 (by simp) (by simp) ?_
  (conv => whnf); repeat' (first
    | (refine And.intro ?_ ?_ <;> ((try intro h) <;> (try simp only [Bool.not_true, Bool.not_false, decide_eq_true_eq, decide_eq_false_iff_not, Int.not_lt, Int.not_le, gt_iff_lt, ge_iff_le] at h) <;> first | exact absurd h Bool.false_ne_true | exact absurd h.symm Bool.false_ne_true | conv => whnf))
    | (refine VL.drawS hTb hMix (by kernel_rfl) (by kernel_rfl) (by kernel_rfl) ?_; conv => whnf)
    | (refine Need.mk ?_; kernel_rfl) | (refine Need.mk ⟨rfl, ?_⟩; decide)
    | (refine DT.op hTb rfl (o_slice_imm (n1 := 0) (n2 := k) (rows' := (l.take k).map encCol) hTb rfl rfl rfl rfl rfl rfl bnd_none (bnd_some rfl) (Nat.zero_le _) (by simp; omega) (by rw [List.drop_zero, Nat.sub_zero, List.map_take])) rfl ?_; conv => whnf)
    | (refine DT.op hTb rfl (o_slice_imm (n1 := k + 1) (n2 := (l.map encCol).length) (rows' := (l.drop (k + 1)).map encCol) hTb rfl rfl rfl rfl rfl rfl (bnd_wr rfl ew) bnd_none (by simp; omega) (by simp) (by rw [← List.map_drop]; exact List.take_of_length_le (by simp))) rfl ?_; conv => whnf)
    | (refine VR.opk hTb rfl rfl (o_app0 (f := encCol) (m := (l.take k)) (q := 109) hTb rfl rfl rfl rfl rfl rfl rfl rfl rfl rfl (by omega) (by show _ * 64 ≤ _; omega) (by unfold maxLen; omega)) ?_; conv => whnf)
    | (refine DT.opk hTb rfl (o_app0 (f := encCol) (m := (l.take k)) (q := 109) hTb rfl rfl rfl rfl rfl rfl rfl rfl rfl rfl (by omega) (by show _ * 64 ≤ _; omega) (by unfold maxLen; omega)) ?_; conv => whnf)
    | (refine DT.opk hTb rfl (o_appN (f := encCol) (l := l.take k) (m := l.drop (k + 1)) (q := 114) hTb rfl rfl rfl rfl rfl rfl rfl rfl rfl rfl rfl (by omega) (by show _ * 64 ≤ _; omega) (by unfold maxLen; omega)) ?_; conv => whnf))
  exact endW [114] rfl rfl rfl rfl rfl (LeS.of_eq (congrArg (fun n => Slot.one (.own 0 0 n)) (by rw [e1, e2]; omega))) rfl (congrArg (fun r => [Ob.arr 49 7 r]) (by rw [List.eraseIdx_eq_take_drop_succ]))
end Go.Vl

namespace Go.Vl
open Go Go.RowKit Go.Proofs
set_option maxRecDepth 100000
set_option linter.unusedSimpArgs false
set_option linter.unusedVariables false
set_option maxHeartbeats 1600000

def qb : ByteArray := ⟨#[39]⟩
def noneB : ByteArray := ⟨#[110, 111, 110, 101]⟩
def mid (t : ByteArray) : ByteArray := t.extract 1 (t.size - 1)
def qt (t : ByteArray) : Bool := Lib.hasPrefix t.data.toList qb.data.toList && Lib.hasSuffix t.data.toList qb.data.toList && decide (2 ≤ t.size)
def rdV (t : ByteArray) : Option Val :=
  if t.data.toList = noneB.data.toList then some ⟨0, 0, ⟨#[]⟩⟩ else
  match numOf t.data.toList with
  | some n => if -999 ≤ n ∧ n ≤ 999 then some ⟨1, n, ⟨#[]⟩⟩ else none
  | none => if qt t = true ∧ valOk ⟨2, 0, mid t⟩ = true then some ⟨2, 0, mid t⟩ else none
def rdVS (o : Option Val) : Slot := match o with
  | some v => .tup [(true, encVal v), (false, [.g (.bool true)])]
  | none => .tup [(true, encVal ⟨0, 0, ⟨#[]⟩⟩), (false, [.g (.bool false)])]
theorem ba_ext {a b : ByteArray} (h : a.data.toList = b.data.toList) : a = b := by
  apply ByteArray.ext; exact Array.toList_inj.1 h
theorem mid_list {t : ByteArray} : (mid t).data.toList = (t.data.toList.take (t.size - 1)).drop 1 := by
  unfold mid
  rw [ByteArray.data_extract, Array.toList_extract, List.extract_eq_take_drop, List.drop_take]
theorem app3 (m : ByteArray) : (qb ++ m ++ qb).data.toList = 39 :: (m.data.toList ++ [39]) := by
  simp [qb, ByteArray.data_append]
theorem qt_iff {t : ByteArray} (h2 : 2 ≤ t.size) : qt t = true ↔ (qb ++ mid t ++ qb).data.toList = t.data.toList := by
  have hs := size_len t
  have e1 : qb.data.toList = [39] := rfl
  rw [app3, mid_list]
  unfold qt Lib.hasPrefix Lib.hasSuffix
  rw [e1]
  simp only [Bool.and_eq_true, decide_eq_true_eq, List.isPrefixOf_iff_prefix, List.isSuffixOf_iff_suffix]
  generalize t.data.toList = l at hs
  rw [hs] at h2 ⊢
  constructor
  · rintro ⟨⟨⟨r, rfl⟩, ⟨r', hr⟩⟩, _⟩
    have hl : 1 ≤ r.length := by simp at h2; omega
    have h3 : r ≠ [] := by intro e; subst e; simp at hl
    obtain ⟨r0, c, rfl⟩ : ∃ r0 c, r = r0 ++ [c] := ⟨r.dropLast, r.getLast h3, (List.dropLast_concat_getLast h3).symm⟩
    have h4 : r' ++ [39] = (39 :: r0) ++ [c] := by simpa using hr
    have h5 := List.append_inj_right' h4 rfl
    simp at h5; subst h5
    simp
  · intro h
    refine ⟨⟨⟨_, by simpa using h⟩, ⟨39 :: (l.take (l.length - 1)).drop 1, by simpa using h⟩⟩, h2⟩
theorem num_head {t : ByteArray} {n : Int} (h : numOf t.data.toList = some n) : t.data.toList.head? ≠ some 39 := by
  intro h1
  cases hl : t.data.toList with
  | nil => rw [hl] at h1; cases h1
  | cons a l =>
    rw [hl] at h1 h
    simp at h1; subst h1
    unfold numOf numR at h
    rw [if_neg (by simp)] at h
    split at h
    · cases h
    · simp [valD] at h
theorem qt_head {t : ByteArray} (h : qt t = true) : t.data.toList.head? = some 39 := by
  unfold qt Lib.hasPrefix at h
  simp only [Bool.and_eq_true, List.isPrefixOf_iff_prefix] at h
  obtain ⟨⟨⟨r, hr⟩, _⟩, _⟩ := h
  rw [← hr]; rfl
theorem qt_num {t : ByteArray} (h : qt t = true) : numOf t.data.toList = none := by
  cases e : numOf t.data.toList with
  | none => rfl
  | some n => exact absurd (qt_head h) (num_head e)
theorem num_none {t : ByteArray} (h : t.data.toList = noneB.data.toList) : numOf t.data.toList = none := by
  rw [h]; decide +kernel
theorem qt_none {t : ByteArray} (h : t.data.toList = noneB.data.toList) : qt t = false := by
  cases e : qt t with
  | false => rfl
  | true => have := qt_head e; rw [h] at this; revert this; decide
theorem qt_size {t : ByteArray} (h : qt t = true) : 2 ≤ t.size := by
  unfold qt at h; simp only [Bool.and_eq_true, decide_eq_true_eq] at h; exact h.2
theorem qt_parts {t : ByteArray} (h : qt t = true) : Lib.hasPrefix t.data.toList qb.data.toList = true ∧ Lib.hasSuffix t.data.toList qb.data.toList = true := by
  unfold qt at h; simp only [Bool.and_eq_true] at h; exact h.1
theorem qt_of {t : ByteArray} (h1 : Lib.hasPrefix t.data.toList qb.data.toList = true) (h2 : Lib.hasSuffix t.data.toList qb.data.toList = true) (h3 : 2 ≤ t.size) : qt t = true := by
  unfold qt; rw [h1, h2]; simpa using h3
theorem mid_size {t : ByteArray} : (mid t).size = t.size - 2 := by
  rw [size_len, mid_list, size_len]; simp; omega
theorem valText_num {n : Int} (h : -999 ≤ n ∧ n ≤ 999) : valText ⟨1, n, ⟨#[]⟩⟩ = bl (Lib.itoa n) := by
  unfold valText; rw [valOk_n, if_pos (by simp; omega), if_pos rfl]
theorem valText_mid {m : ByteArray} : valText ⟨2, 0, m⟩ = if valOk ⟨2, 0, m⟩ = true then qb ++ m ++ qb else ⟨#[]⟩ := by
  unfold valText; rfl
theorem valText_zero : valText ⟨0, 0, ⟨#[]⟩⟩ = noneB := by decide +kernel
theorem bl_list (l : List UInt8) : (bl l).data.toList = l := by simp [bl]
theorem valOk_mid {m : ByteArray} (h : valOk ⟨2, 0, m⟩ = true) : m.size ≤ 4 := by
  have := valOk_text h rfl; simpa using this
theorem empty_ne {t : ByteArray} (h : 2 ≤ t.size) : (⟨#[]⟩ : ByteArray).data.toList ≠ t.data.toList := by
  intro e; rw [size_len, ← e] at h; simp at h
theorem num_nil {t : ByteArray} (h : t.data.toList = []) : numOf t.data.toList = none := by rw [h]; rfl
-- what the program does
theorem impl_q {t : ByteArray} (h : qt t = true) : rdV t = if (valText ⟨2, 0, mid t⟩).data.toList = t.data.toList then some ⟨2, 0, mid t⟩ else none := by
  have h2 := qt_size h
  unfold rdV
  rw [if_neg (fun e => by rw [qt_none e] at h; cases h), qt_num h]
  simp only [h, true_and]
  rw [valText_mid]
  by_cases hv : valOk ⟨2, 0, mid t⟩ = true
  · rw [if_pos hv, if_pos hv, if_pos ((qt_iff h2).1 h)]
  · rw [if_neg hv, if_neg hv, if_neg (empty_ne h2)]
theorem impl_n {t : ByteArray} (h : qt t = false) : rdV t = if (valText (numV t)).data.toList = t.data.toList then some (numV t) else none := by
  unfold rdV
  by_cases h0 : t.data.toList = noneB.data.toList
  · have e : numV t = ⟨0, 0, ⟨#[]⟩⟩ := by unfold numV; rw [num_none h0]
    rw [if_pos h0, e, valText_zero, if_pos h0.symm]
  · rw [if_neg h0]
    unfold numV
    cases hn : numOf t.data.toList with
    | none =>
      simp only [h, Bool.false_eq_true, false_and, if_false]
      rw [valText_zero, if_neg (fun e => h0 e.symm)]
    | some n =>
      simp only
      by_cases hr : -999 ≤ n ∧ n ≤ 999
      · rw [if_pos hr, if_pos hr, valText_num hr, bl_list, if_pos (itoa_of_num hn)]
      · rw [if_neg hr, if_neg hr, valText_zero, if_neg (fun e => h0 e.symm)]
theorem numV_ne {t : ByteArray} (h : (valText (numV t)).data.toList = t.data.toList) : t.data.toList ≠ [] := by
  intro e
  have e2 : numV t = ⟨0, 0, ⟨#[]⟩⟩ := by unfold numV; rw [num_nil e]
  rw [e2, valText_zero, e] at h
  revert h; decide
-- what the reference does
theorem spec_q {t : ByteArray} (h0 : t.data.toList ≠ noneB.data.toList) (hn : numOf t.data.toList = none) (h2 : 2 ≤ t.size) (hv : valOk ⟨2, 0, mid t⟩ = true) :
    rdV t = if (valText ⟨2, 0, mid t⟩).data.toList = t.data.toList then some ⟨2, 0, mid t⟩ else none := by
  unfold rdV
  rw [if_neg h0, hn, valText_mid, if_pos hv]
  simp only [hv, and_true]
  by_cases hq : qt t = true
  · rw [if_pos hq, if_pos ((qt_iff h2).1 hq)]
  · rw [if_neg hq, if_neg (fun e => hq ((qt_iff h2).2 e))]
theorem spec_no {t : ByteArray} (h0 : t.data.toList ≠ noneB.data.toList) (hn : numOf t.data.toList = none) (hv : valOk ⟨2, 0, mid t⟩ = true → t.size < 2 ∨ 6 < t.size) : rdV t = none := by
  unfold rdV
  rw [if_neg h0, hn]
  simp only
  refine if_neg fun h => ?_
  have h1 := qt_size h.1
  have h3 := valOk_mid h.2
  have h4 := mid_size (t := t)
  rcases hv h.2 with h | h <;> omega
theorem spec_n {t : ByteArray} {n : Int} (h0 : t.data.toList ≠ noneB.data.toList) (hn : numOf t.data.toList = some n) : rdV t = if -999 ≤ n ∧ n ≤ 999 then some ⟨1, n, ⟨#[]⟩⟩ else none := by
  unfold rdV
  rw [if_neg h0, hn]
theorem num0_ne {t : ByteArray} (hn : numOf t.data.toList = none) : (valText ⟨1, 0, ⟨#[]⟩⟩).data.toList ≠ t.data.toList := by
  intro e
  rw [valText_num (by omega), bl_list] at e
  rw [← e, (num_of_itoa (n := 0) (by omega) (by omega)).1] at hn
  cases hn
theorem sub_mid {t : ByteArray} (h : 1 ≤ t.size) (hs : t.size ≤ maxLen) : IntKind.i64.wrap ((t.size : Int) - 1) = ((t.size - 1 : Nat) : Int) := by
  rw [IntKind.wrap_i64]; unfold maxLen at hs; omega
theorem num1k {n : Int} (h : -999 ≤ n ∧ n ≤ 999) : valOk ⟨1, n, ⟨#[]⟩⟩ = true := by rw [valOk_n]; simp; omega
end Go.Vl

namespace Go.Vl
open Go Go.RowKit Go.Proofs
set_option maxRecDepth 100000
set_option linter.unusedSimpArgs false
set_option linter.unusedVariables false
set_option maxHeartbeats 1600000

theorem tl_ext {a b : ByteArray} (h : a.toList = b.toList) : a = b := by
  rw [ByteArray.toList_eq, ByteArray.toList_eq] at h; exact ba_ext h
theorem zero_ok : valOk ⟨0, 0, ⟨#[]⟩⟩ = true := by decide +kernel
theorem valOk_nil {v : Val} (h : valOk v = true) (hk : v.k = 0) : v = ⟨0, 0, ⟨#[]⟩⟩ := by
  obtain ⟨k, n, t⟩ := v
  simp only at hk; subst hk
  unfold valOk at h
  simp only [if_true, Bool.and_eq_true, beq_iff_eq] at h
  obtain ⟨h1, h2⟩ := h
  subst h1
  rw [tl_ext (h2.trans emptyList.symm)]
theorem valOk_one {v : Val} (h : valOk v = true) (hk : v.k = 1) : v = ⟨1, v.n, ⟨#[]⟩⟩ ∧ -999 ≤ v.n ∧ v.n ≤ 999 := by
  obtain ⟨k, n, t⟩ := v
  simp only at hk; subst hk
  unfold valOk at h
  simp [Bool.and_eq_true, beq_iff_eq] at h
  obtain ⟨⟨h1, h3⟩, h2⟩ := h
  rw [tl_ext (h2.trans emptyList.symm)]
  exact ⟨rfl, h1, h3⟩
theorem valOk_two {v : Val} (h : valOk v = true) (hk : v.k = 2) : v = ⟨2, 0, v.t⟩ := by
  obtain ⟨k, n, t⟩ := v
  simp only at hk; subst hk
  unfold valOk at h
  simp [Bool.and_eq_true, beq_iff_eq] at h
  rw [h.1]
theorem num_text : ∀ i : Fin 1999, valOk ⟨2, 0, bl (Lib.itoa ((i.val : Int) - 999))⟩ = true := by decide +kernel
theorem num_text' {n : Int} (h : -999 ≤ n ∧ n ≤ 999) : valOk ⟨2, 0, bl (Lib.itoa n)⟩ = true := by
  have := num_text ⟨(n + 999).toNat, by omega⟩
  rwa [show (((n + 999).toNat : Nat) : Int) - 999 = n by omega] at this
theorem numV_cases (t : ByteArray) : (∃ n, -999 ≤ n ∧ n ≤ 999 ∧ numOf t.data.toList = some n ∧ numV t = ⟨1, n, ⟨#[]⟩⟩) ∨ numV t = ⟨0, 0, ⟨#[]⟩⟩ := by
  unfold numV
  cases e : numOf t.data.toList with
  | none => exact .inr rfl
  | some n =>
    simp only
    by_cases h : -999 ≤ n ∧ n ≤ 999
    · rw [if_pos h]; exact .inl ⟨n, h.1, h.2, rfl, rfl⟩
    · rw [if_neg h]; exact .inr rfl
theorem num1_ok {n : Int} (h : -999 ≤ n ∧ n ≤ 999) : valOk ⟨1, n, ⟨#[]⟩⟩ = true := by rw [valOk_n]; simp; omega
theorem numV_ok (t : ByteArray) : valOk (numV t) = true := by
  rcases numV_cases t with ⟨n, h1, h2, _, e⟩ | e
  · rw [e]; exact num1_ok ⟨h1, h2⟩
  · rw [e]; exact zero_ok
theorem numV_itoa {n : Int} (h : -999 ≤ n ∧ n ≤ 999) : numV (bl (Lib.itoa n)) = ⟨1, n, ⟨#[]⟩⟩ := numV_yes h (bl_list _).symm
theorem valAs_no {v : Val} {kd : Int} (h : valOk v = false ∨ ¬ (kd = 1 ∨ kd = 2)) : valAs v kd = ⟨0, 0, ⟨#[]⟩⟩ := by
  unfold valAs
  rw [if_neg]
  rintro ⟨h1, h2, _⟩
  rcases h with h | h
  · rw [h] at h1; cases h1
  · exact h h2
theorem valAs_nil (kd : Int) : valAs ⟨0, 0, ⟨#[]⟩⟩ kd = ⟨0, 0, ⟨#[]⟩⟩ := by
  unfold valAs
  rw [if_neg]
  rintro ⟨_, _, h⟩
  exact h rfl
theorem valAs_same {v : Val} {kd : Int} (h : valOk v = true) (hk : kd = 1 ∨ kd = 2) (e : v.k = kd) : valAs v kd = v := by
  unfold valAs
  rw [if_pos ⟨h, hk, by omega⟩, if_pos e]
theorem valAs_nt {v : Val} (h : valOk v = true) (hk : v.k = 1) : valAs v 2 = ⟨2, 0, bl (Lib.itoa v.n)⟩ := by
  unfold valAs
  rw [if_pos ⟨h, .inr rfl, by omega⟩, if_neg (by omega), if_pos rfl]
theorem valAs_tn {v : Val} (h : valOk v = true) (hk : v.k = 2) : valAs v 1 = numV v.t := by
  unfold valAs
  rw [if_pos ⟨h, .inl rfl, by omega⟩, if_neg (by omega), if_neg (by omega)]
/-- All that comes about. -/
theorem valAs_cases (v : Val) (kd : Int) : valAs v kd = ⟨0, 0, ⟨#[]⟩⟩ ∨ (valOk v = true ∧ (kd = 1 ∨ kd = 2) ∧ v.k = kd ∧ valAs v kd = v) ∨
    (valOk v = true ∧ v.k = 1 ∧ kd = 2 ∧ valAs v kd = ⟨2, 0, bl (Lib.itoa v.n)⟩) ∨ (valOk v = true ∧ v.k = 2 ∧ kd = 1 ∧ ∃ n, -999 ≤ n ∧ n ≤ 999 ∧ numOf v.t.data.toList = some n ∧ valAs v kd = ⟨1, n, ⟨#[]⟩⟩) := by
  by_cases h : valOk v = true
  · by_cases hk : kd = 1 ∨ kd = 2
    · rcases valOk_kind h with e | e | e
      · left; rw [valOk_nil h e]; exact valAs_nil kd
      · rcases hk with rfl | rfl
        · exact .inr (.inl ⟨h, .inl rfl, e, valAs_same h (.inl rfl) e⟩)
        · exact .inr (.inr (.inl ⟨h, e, rfl, valAs_nt h e⟩))
      · rcases hk with rfl | rfl
        · rcases numV_cases v.t with ⟨n, h1, h2, h3, h4⟩ | h4
          · exact .inr (.inr (.inr ⟨h, e, rfl, n, h1, h2, h3, (valAs_tn h e).trans h4⟩))
          · exact .inl ((valAs_tn h e).trans h4)
        · exact .inr (.inl ⟨h, .inr rfl, e, valAs_same h (.inr rfl) e⟩)
    · exact .inl (valAs_no (.inr hk))
  · exact .inl (valAs_no (.inl (by simpa using h)))
theorem valAs_ok (v : Val) (kd : Int) : valOk (valAs v kd) = true := by
  rcases valAs_cases v kd with e | ⟨h, _, _, e⟩ | ⟨h, h1, _, e⟩ | ⟨h, h1, _, n, h2, h3, _, e⟩
  · rw [e]; exact zero_ok
  · rw [e]; exact h
  · rw [e]; exact num_text' (valOk_one h h1).2
  · rw [e]; exact num1_ok ⟨h2, h3⟩
theorem valAs_kind (v : Val) (kd : Int) : (valAs v kd).k = kd ∨ valAs v kd = ⟨0, 0, ⟨#[]⟩⟩ := by
  rcases valAs_cases v kd with e | ⟨_, _, h, e⟩ | ⟨_, _, h, e⟩ | ⟨_, _, h, n, _, _, _, e⟩
  · exact .inr e
  · rw [e]; exact .inl h
  · rw [e]; exact .inl h.symm
  · rw [e]; exact .inl h.symm
theorem valAs_twice (v : Val) (kd : Int) : valAs (valAs v kd) kd = valAs v kd := by
  by_cases hk : kd = 1 ∨ kd = 2
  · rcases valAs_kind v kd with h | h
    · exact valAs_same (valAs_ok v kd) hk h
    · rw [h]; exact valAs_nil kd
  · rw [valAs_no (v := valAs v kd) (.inr hk), valAs_no (.inr hk)]
theorem valAs_ntn {v : Val} (h : valOk v = true) (hk : v.k = 1) : valAs (valAs v 2) 1 = v := by
  obtain ⟨e, hr⟩ := valOk_one h hk
  rw [valAs_nt h hk, valAs_tn (num_text' hr) rfl, numV_itoa hr]
  exact e.symm
theorem valAs_size (v : Val) (kd : Int) : (valAs v kd).t.size ≤ 4 := by
  have h := valAs_ok v kd
  rcases valOk_kind h with e | e | e
  · rw [valOk_nil h e]; decide
  · rw [(valOk_one h e).1]; show (⟨#[]⟩ : ByteArray).size ≤ 4; decide
  · exact valOk_text h e
theorem valText_ok_num {v : Val} (h : valOk v = true) (hk : v.k = 1) : valText v = bl (Lib.itoa v.n) := by
  unfold valText; rw [if_pos h, if_pos hk]
theorem turn_nt {v : Val} {kd : Int} (h2 : (valAs v kd).k = 2) (h1 : v.k = 1) : (valAs v kd).t = valText v := by
  rcases valAs_cases v kd with e | ⟨h, _, h3, e⟩ | ⟨h, h3, _, e⟩ | ⟨_, _, _, n, _, _, _, e⟩
  · rw [e] at h2; cases h2
  · rw [e, h1] at h2; cases h2
  · rw [e, valText_ok_num h h3]
  · rw [e] at h2; cases h2
theorem turn_tn {v : Val} {kd : Int} (h2 : (valAs v kd).k = 1) (h1 : v.k = 2) : v.t = valText (valAs v kd) := by
  rcases valAs_cases v kd with e | ⟨h, _, h3, e⟩ | ⟨h, h3, _, e⟩ | ⟨_, _, _, n, k1, k2, k3, e⟩
  · rw [e] at h2; cases h2
  · rw [e, h1] at h2; cases h2
  · rw [e] at h2; cases h2
  · rw [e, valText_num ⟨k1, k2⟩]
    apply ba_ext
    rw [bl_list, itoa_of_num k3]
-- what is read
theorem rdV_ok {t : ByteArray} {v : Val} (h : rdV t = some v) : valOk v = true ∧ valText v = t := by
  unfold rdV at h
  split at h
  · rename_i h0; cases h; exact ⟨zero_ok, valText_zero.trans (ba_ext h0.symm)⟩
  · split at h
    · rename_i n hn
      split at h
      · rename_i hr
        cases h
        refine ⟨num1_ok hr, ?_⟩
        rw [valText_num hr]
        exact ba_ext (by rw [bl_list, itoa_of_num hn])
      · cases h
    · split at h
      · rename_i hq
        cases h
        refine ⟨hq.2, ?_⟩
        rw [valText_mid, if_pos hq.2]
        exact ba_ext ((qt_iff (qt_size hq.1)).1 hq.1)
      · cases h
theorem rd_mid {m : ByteArray} : mid (qb ++ m ++ qb) = m := by
  apply ba_ext
  rw [mid_list, size_len, app3]
  simp
theorem qt_quote {m : ByteArray} : qt (qb ++ m ++ qb) = true := by
  have hs : 2 ≤ (qb ++ m ++ qb).size := by rw [size_len, app3]; simp
  rw [qt_iff hs, rd_mid]
theorem rdV_text (v : Val) : rdV (valText v) = if valOk v = true then some v else none := by
  by_cases h : valOk v = true
  · rw [if_pos h]
    rcases valOk_kind h with e | e | e
    · rw [valOk_nil h e, valText_zero]; unfold rdV; rw [if_pos rfl]
    · obtain ⟨e1, hr⟩ := valOk_one h e
      rw [e1, valText_num hr]
      unfold rdV
      have hn := (num_of_itoa hr.1 hr.2).1
      rw [bl_list, if_neg (fun e0 => by have := num_none (t := bl (Lib.itoa v.n)) (by rw [bl_list]; exact e0); rw [bl_list, hn] at this; cases this), hn]
      simp only
      rw [if_pos hr]
    · have e1 := valOk_two h e
      rw [e1] at h ⊢
      rw [valText_mid, if_pos h]
      unfold rdV
      rw [if_neg (fun e0 => by have := qt_none e0; rw [qt_quote] at this; cases this), qt_num qt_quote]
      simp only [rd_mid]
      rw [if_pos ⟨qt_quote, h⟩]
  · rw [if_neg h]
    have : valText v = ⟨#[]⟩ := by unfold valText; rw [if_neg h]
    rw [this]; decide +kernel
theorem valText_size (v : Val) : (valText v).size ≤ 6 := by
  by_cases h : valOk v = true
  · rcases valOk_kind h with e | e | e
    · rw [valOk_nil h e, valText_zero]; decide
    · obtain ⟨e1, hr⟩ := valOk_one h e
      have := valOk_mid (num_text' hr)
      rw [e1, valText_num hr]; omega
    · have e1 := valOk_two h e
      rw [e1] at h ⊢
      rw [valText_mid, if_pos h, size_len, app3]
      have := valOk_mid h
      simp only [List.length_cons, List.length_append, List.length_nil]
      rw [← size_len]; omega
  · have : valText v = ⟨#[]⟩ := by unfold valText; rw [if_neg h]
    rw [this]; decide
theorem rd_iff {t : ByteArray} {y : Val} (v : Val) (h : rdV t = some y) : y = v ↔ t = valText v := by
  constructor
  · rintro rfl; exact (rdV_ok h).2.symm
  · intro e
    rw [e, rdV_text] at h
    split at h
    · cases h; rfl
    · cases h
theorem numText_iff {v : Val} (h : valOk v = true) (hk : v.k = 2) : ((valAs v 1).k = 1 ↔ ∃ y, rdV v.t = some y ∧ y.k = 1) ∧ (∀ y, rdV v.t = some y → y.k = 1 → valAs v 1 = y ∧ valAs y 2 = v) := by
  have e1 := valOk_two h hk
  have key : ∀ y, rdV v.t = some y → y.k = 1 → valAs v 1 = y ∧ valAs y 2 = v := by
    intro y hy hy1
    have h0 := rdV_ok hy
    obtain ⟨e2, hr⟩ := valOk_one h0.1 hy1
    have h3 : v.t = bl (Lib.itoa y.n) := by rw [← valText_ok_num h0.1 hy1, h0.2]
    refine ⟨?_, ?_⟩
    · rw [valAs_tn h hk, h3, numV_itoa hr]; exact e2.symm
    · rw [valAs_nt h0.1 hy1, ← h3]; exact e1.symm
  refine ⟨⟨fun h1 => ?_, fun ⟨y, hy, hy1⟩ => ?_⟩, key⟩
  · have hx := valAs_ok v 1
    have h2 := turn_tn h1 hk
    refine ⟨valAs v 1, ?_, h1⟩
    rw [h2, rdV_text, if_pos hx]
  · rw [(key y hy hy1).1]; exact hy1
end Go.Vl

namespace Go.Vl
open Go Go.RowKit Go.Proofs
set_option maxRecDepth 100000
set_option linter.unusedSimpArgs false
set_option linter.unusedVariables false
set_option maxHeartbeats 4000000

def Col.md (c : Col) : Prop := c.name.size ≤ 1048576 ∧ c.d.t.size ≤ 1048576
def mdCols (l : List Col) : Prop := ∀ x ∈ l, x.md
def Change.md (c : Change) : Prop := c.name.size ≤ 1048576 ∧ c.new.size ≤ 1048576 ∧ c.col.md
def ccName (x : Col) (s : ByteArray) : Col := ⟨s, x.kind, x.need, x.once, x.d⟩
def ccKind (x : Col) (k : Int) : Col := ⟨x.name, k, x.need, x.once, valAs x.d k⟩
def chDo (s : List Col) (c : Change) : Option (List Col) :=
  if namedB c = false then none
  else if c.kind = 1 then (if c.col.need = true ∧ c.col.d.k = 0 then none else some (s ++ [c.col]))
  else if nameAt s c.name < 0 then none
  else if c.kind = 2 then some (s.eraseIdx (nameAt s c.name).toNat)
  else if c.kind = 3 then some (s.set (nameAt s c.name).toNat (ccName (s.getD (nameAt s c.name).toNat (kCol 0)) c.new))
  else if c.col.kind = (s.getD (nameAt s c.name).toNat (kCol 0)).kind then none
  else some (s.set (nameAt s c.name).toNat (ccKind (s.getD (nameAt s c.name).toNat (kCol 0)) c.col.kind))
def okO (s : List Col) (o : Option (List Col)) : List Col × Bool := match o with
  | some out => if shapeOk out then (out, true) else (s, false)
  | none => (s, false)
def shDo (s : List Col) (c : Change) : List Col × Bool := okO s (chDo s c)
abbrev shS (x : List Col × Bool) : Slot := .tup [(false, [.own 0 0 x.1.length]), (false, [.g (.bool x.2)])]
abbrev shN (x : List Col × Bool) : List Ob := [.arr 49 7 (x.1.map encCol)]
theorem mdCols.ok {l : List Col} (h : mdCols l) : ∀ c ∈ l, c.ok := fun c hc => ⟨by have := (h c hc).1; unfold maxLen; omega, by have := (h c hc).2; show c.d.t.size ≤ maxLen; unfold maxLen; omega⟩
theorem mdCols.app {l : List Col} {c : Col} (h : mdCols l) (hc : c.md) : mdCols (l ++ [c]) := by
  intro x hx
  rcases List.mem_append.1 hx with hx | hx
  · exact h x hx
  · simp at hx; subst hx; exact hc
theorem mdCols.set {l : List Col} {c : Col} {i : Nat} (h : mdCols l) (hc : c.md) : mdCols (l.set i c) := by
  intro x hx
  rcases List.mem_or_eq_of_mem_set hx with hx | rfl
  · exact h x hx
  · exact hc
theorem mdCols.erase {l : List Col} {i : Nat} (h : mdCols l) : mdCols (l.eraseIdx i) := fun x hx => h x (List.mem_of_mem_eraseIdx hx)
theorem md_getD {l : List Col} {i : Nat} (h : mdCols l) (hi : i < l.length) : (l.getD i (kCol 0)).md := by
  have e : l.getD i (kCol 0) = l[i] := by simp [List.getD, hi]
  rw [e]; exact h _ (List.getElem_mem hi)
theorem brwE {l : List Col} {k : Nat} (h : k < l.length) (z : Col) : Slot.one (.imm 7 ((((l.eraseIdx k ++ [z]).map encCol).drop 0).take (l.length - 1))) = colsI (l.eraseIdx k) := by
  have e : (l.eraseIdx k).length = l.length - 1 := by rw [List.length_eraseIdx, if_pos h]
  rw [List.drop_zero, List.map_append, List.take_left' (by rw [List.length_map, e])]; rfl
theorem grNewCol (n : Nat) (l : List Col) : GrS (.one (.own 0 0 n)) ∧ (∀ ob, some ob ∈ ([] : List (Option Ob)) → GrO ob) ∧ ∀ ob ∈ [Ob.arr 49 7 (l.map encCol)], GrO ob :=
  ⟨rfl, fun _ h => by simp at h, fun ob h => by simp at h; subst h; exact grCols l⟩
theorem namedB_kind {c : Change} (h : namedB c = true) : c.kind = 1 ∨ c.kind = 2 ∨ c.kind = 3 ∨ c.kind = 4 := by
  unfold namedB at h
  split at h; exact .inl ‹_›
  split at h; exact .inr (.inl ‹_›)
  split at h; exact .inr (.inr (.inl ‹_›))
  split at h; exact .inr (.inr (.inr ‹_›))
  cases h
theorem c_change (s : List Col) (c : Change) (hl : s.length ≤ 1900000) (hs : mdCols s) (hc : c.md) : CallsV Tryz.prog 155 [colsI s, .agg (encChange c)] [] (funQ (shS (shDo s c)) [] (shN (shDo s c))) := by
  obtain ⟨kd, nm, nw, ⟨cn, ck, c1, c2, ⟨d1, d2, d3⟩⟩⟩ := c
  have cN := c_named ⟨kd, nm, nw, ⟨cn, ck, c1, c2, ⟨d1, d2, d3⟩⟩⟩
  have cA := c_colAt s nm (by unfold maxLen; omega)
  have c0 := c_cloneCol s (by omega)
  have hok := fun (l : List Col) (h : mdCols l) (hn : l.length ≤ 2000000) => c_implShapeOk l (by unfold maxLen; omega) h.ok
  obtain ⟨hc1, hc2, hc3⟩ := hc
  simp only at hc1 hc2 hc3
  obtain ⟨b, hb⟩ : ∃ b, namedB ⟨kd, nm, nw, ⟨cn, ck, c1, c2, ⟨d1, d2, d3⟩⟩⟩ = b := ⟨_, rfl⟩
  rw [hb] at cN
  obtain ⟨r, hr⟩ : ∃ r, chDo s ⟨kd, nm, nw, ⟨cn, ck, c1, c2, ⟨d1, d2, d3⟩⟩⟩ = r := ⟨_, rfl⟩
  unfold shDo
  rw [hr]
  unfold chDo at hr
  rw [hb] at hr
  simp only at hr
  cases b
  · rw [if_pos rfl] at hr
    subst hr
    refine funF_walk hTb Tryz.func155 rfl rfl Tryz.ntmps155 (by simp) (by simp) ?_
    (conv => whnf); repeat' (first
    | (refine And.intro ?_ ?_ <;> ((try intro h) <;> (try simp only [Bool.not_true, Bool.not_false, decide_eq_true_eq, decide_eq_false_iff_not, Int.not_lt, Int.not_le, gt_iff_lt, ge_iff_le] at h) <;> first | exact absurd h Bool.false_ne_true | exact absurd h.symm Bool.false_ne_true | conv => whnf))
    | (refine VL.drawS hTb hMix (by kernel_rfl) (by kernel_rfl) (by kernel_rfl) ?_; conv => whnf)
    | (refine Need.mk ?_; kernel_rfl) | (refine Need.mk ⟨rfl, ?_⟩; decide)
    | (refine VR.pure hTb rfl rfl (o_purN (cN) rfl rfl rfl ⟨rfl, rfl, rfl, rfl⟩ rfl) ?_; conv => whnf)
    | (refine DT.pure hTb rfl (o_purN (cN) rfl rfl rfl ⟨rfl, rfl, rfl, rfl⟩ rfl) ?_; conv => whnf)
    | (refine VR.pure hTb rfl rfl (o_purN (cA) rfl rfl rfl ⟨rfl, rfl, rfl, rfl⟩ rfl) ?_; conv => whnf)
    | (refine DT.pure hTb rfl (o_purN (cA) rfl rfl rfl ⟨rfl, rfl, rfl, rfl⟩ rfl) ?_; conv => whnf)
    | (refine VR.fun hTb rfl rfl (o_funN (c0) false [] (fun h => by cases h) (by simp) rfl rfl rfl rfl rfl ⟨rfl, rfl, rfl, rfl⟩ rfl rfl) ?_; conv => whnf)
    | (refine DT.fun hTb rfl (o_funN (c0) false [] (fun h => by cases h) (by simp) rfl rfl rfl rfl rfl ⟨rfl, rfl, rfl, rfl⟩ rfl rfl) rfl ?_; conv => whnf))
    all_goals exact endW [1036] rfl rfl rfl rfl rfl (LeS.refl _) rfl rfl
  have hk := namedB_kind hb
  simp only at hk
  rw [if_neg (by simp)] at hr
  by_cases hk1 : kd = 1
  · subst hk1
    rw [if_pos rfl] at hr
    by_cases hd : c1 = true ∧ d1 = 0
    · obtain ⟨rfl, rfl⟩ := hd
      rw [if_pos ⟨rfl, rfl⟩] at hr
      subst hr
      refine funF_walk hTb Tryz.func155 rfl rfl Tryz.ntmps155 (by simp) (by simp) ?_
      (conv => whnf); repeat' (first
    | (refine And.intro ?_ ?_ <;> ((try intro h) <;> (try simp only [Bool.not_true, Bool.not_false, decide_eq_true_eq, decide_eq_false_iff_not, Int.not_lt, Int.not_le, gt_iff_lt, ge_iff_le] at h) <;> first | exact absurd h Bool.false_ne_true | exact absurd h.symm Bool.false_ne_true | conv => whnf))
    | (refine VL.drawS hTb hMix (by kernel_rfl) (by kernel_rfl) (by kernel_rfl) ?_; conv => whnf)
    | (refine Need.mk ?_; kernel_rfl) | (refine Need.mk ⟨rfl, ?_⟩; decide)
    | (refine VR.pure hTb rfl rfl (o_purN (cN) rfl rfl rfl ⟨rfl, rfl, rfl, rfl⟩ rfl) ?_; conv => whnf)
    | (refine DT.pure hTb rfl (o_purN (cN) rfl rfl rfl ⟨rfl, rfl, rfl, rfl⟩ rfl) ?_; conv => whnf)
    | (refine VR.pure hTb rfl rfl (o_purN (cA) rfl rfl rfl ⟨rfl, rfl, rfl, rfl⟩ rfl) ?_; conv => whnf)
    | (refine DT.pure hTb rfl (o_purN (cA) rfl rfl rfl ⟨rfl, rfl, rfl, rfl⟩ rfl) ?_; conv => whnf)
    | (refine VR.fun hTb rfl rfl (o_funN (c0) false [] (fun h => by cases h) (by simp) rfl rfl rfl rfl rfl ⟨rfl, rfl, rfl, rfl⟩ rfl rfl) ?_; conv => whnf)
    | (refine DT.fun hTb rfl (o_funN (c0) false [] (fun h => by cases h) (by simp) rfl rfl rfl rfl rfl ⟨rfl, rfl, rfl, rfl⟩ rfl rfl) rfl ?_; conv => whnf))
      all_goals (first
      | rfl
      | exact endW [1036] rfl rfl rfl rfl rfl (LeS.refl _) rfl rfl
      | exact endW [1392] rfl rfl rfl rfl rfl (LeS.refl _) rfl rfl
      | exact endW [1400] rfl rfl rfl rfl rfl (LeS.refl _) rfl rfl
      | trace_state)
    · rw [if_neg hd] at hr
      subst hr
      have hmd : mdCols (s ++ [⟨cn, ck, c1, c2, ⟨d1, d2, d3⟩⟩]) := hs.app hc3
      have cS := hok _ hmd (by simp; omega)
      have cC := c_cloneCol (s ++ [⟨cn, ck, c1, c2, ⟨d1, d2, d3⟩⟩]) (by simp; omega)
      obtain ⟨x, hx⟩ : ∃ x, shapeOk (s ++ [⟨cn, ck, c1, c2, ⟨d1, d2, d3⟩⟩]) = x := ⟨_, rfl⟩
      rw [hx] at cS
      have hr2 : okO s (some (s ++ [⟨cn, ck, c1, c2, ⟨d1, d2, d3⟩⟩])) = if x then (s ++ [⟨cn, ck, c1, c2, ⟨d1, d2, d3⟩⟩], true) else (s, false) := by simp only [okO, hx]
      rw [hr2]
      refine funF_walk hTb Tryz.func155 rfl rfl Tryz.ntmps155 (by simp) (by simp) ?_
      cases x <;> cases c1 <;> (conv => whnf); repeat' (first
    | (refine And.intro ?_ ?_ <;> ((try intro h) <;> (try simp only [Bool.not_true, Bool.not_false, decide_eq_true_eq, decide_eq_false_iff_not, Int.not_lt, Int.not_le, gt_iff_lt, ge_iff_le] at h) <;> first | exact absurd h Bool.false_ne_true | exact absurd h.symm Bool.false_ne_true | conv => whnf))
    | (refine VL.drawS hTb hMix (by kernel_rfl) (by kernel_rfl) (by kernel_rfl) ?_; conv => whnf)
    | (refine Need.mk ?_; kernel_rfl) | (refine Need.mk ⟨rfl, ?_⟩; decide)
    | (refine VR.pure hTb rfl rfl (o_purN (cN) rfl rfl rfl ⟨rfl, rfl, rfl, rfl⟩ rfl) ?_; conv => whnf)
    | (refine DT.pure hTb rfl (o_purN (cN) rfl rfl rfl ⟨rfl, rfl, rfl, rfl⟩ rfl) ?_; conv => whnf)
    | (refine VR.pure hTb rfl rfl (o_purN (cA) rfl rfl rfl ⟨rfl, rfl, rfl, rfl⟩ rfl) ?_; conv => whnf)
    | (refine DT.pure hTb rfl (o_purN (cA) rfl rfl rfl ⟨rfl, rfl, rfl, rfl⟩ rfl) ?_; conv => whnf)
    | (refine VR.fun hTb rfl rfl (o_funN (c0) false [] (fun h => by cases h) (by simp) rfl rfl rfl rfl rfl ⟨rfl, rfl, rfl, rfl⟩ rfl rfl) ?_; conv => whnf)
    | (refine DT.fun hTb rfl (o_funN (c0) false [] (fun h => by cases h) (by simp) rfl rfl rfl rfl rfl ⟨rfl, rfl, rfl, rfl⟩ rfl rfl) rfl ?_; conv => whnf)
    | (refine VR.opk hTb rfl rfl (o_app1 (q := 146) (a := ⟨_, _, _, _, ⟨_, _, _⟩⟩) hTb rfl rfl rfl rfl rfl rfl rfl rfl rfl rfl rfl rfl (by omega) (by show _ * 64 ≤ _; omega) (by unfold maxLen; omega)) ?_; conv => whnf)
    | (refine DT.opk hTb rfl (o_app1 (q := 146) (a := ⟨_, _, _, _, ⟨_, _, _⟩⟩) hTb rfl rfl rfl rfl rfl rfl rfl rfl rfl rfl rfl rfl (by omega) (by show _ * 64 ≤ _; omega) (by unfold maxLen; omega)) ?_; conv => whnf)
    | (refine VR.pure hTb rfl rfl (o_purN (cS) rfl rfl rfl ⟨rfl, rfl, rfl, rfl⟩ (congrArg (fun s => [s]) brw)) ?_; conv => whnf)
    | (refine DT.pure hTb rfl (o_purN (cS) rfl rfl rfl ⟨rfl, rfl, rfl, rfl⟩ (congrArg (fun s => [s]) brw)) ?_; conv => whnf)
    | (refine VR.pure hTb rfl rfl (o_purN (cS) rfl rfl rfl ⟨rfl, rfl, rfl, rfl⟩ (congrArg (fun s => [s]) brw')) ?_; conv => whnf)
    | (refine DT.pure hTb rfl (o_purN (cS) rfl rfl rfl ⟨rfl, rfl, rfl, rfl⟩ (congrArg (fun s => [s]) brw')) ?_; conv => whnf)
    | (refine VR.pure hTb rfl rfl (o_purN (cS) rfl rfl rfl ⟨rfl, rfl, rfl, rfl⟩ (congrArg (fun s => [s]) (brwG (by simp)))) ?_; conv => whnf)
    | (refine DT.pure hTb rfl (o_purN (cS) rfl rfl rfl ⟨rfl, rfl, rfl, rfl⟩ (congrArg (fun s => [s]) (brwG (by simp)))) ?_; conv => whnf)
    | (refine VR.fun hTb rfl rfl (o_funN (cC) true [] (fun _ => grNewCol _ _) (by simp) rfl rfl rfl rfl rfl ⟨rfl, rfl, rfl, rfl⟩ ?_ rfl) ?_; exact congrArg (fun s => [s]) (brwG (by simp)); conv => whnf)
    | (refine DT.fun hTb rfl (o_funN (cC) true [] (fun _ => grNewCol _ _) (by simp) rfl rfl rfl rfl rfl ⟨rfl, rfl, rfl, rfl⟩ ?_ rfl) rfl ?_; exact congrArg (fun s => [s]) (brwG (by simp)); conv => whnf))
      all_goals (first
      | rfl
      | exact endW [1036] rfl rfl rfl rfl rfl (LeS.refl _) rfl rfl
      | exact endW [1392] rfl rfl rfl rfl rfl (LeS.refl _) rfl rfl
      | exact endW [1400] rfl rfl rfl rfl rfl (LeS.refl _) rfl rfl
      | (exfalso; clear cN cA c0 hok cS cC; simp_all; done)
      | trace_state)
  rw [if_neg hk1] at hr
  rcases nameAt_spec s nm with ⟨hn, _⟩ | ⟨j, hj, hn, _⟩
  · rw [hn] at cA hr
    rw [if_pos (by omega)] at hr
    subst hr
    rcases hk with rfl | rfl | rfl | rfl
    · exact absurd rfl hk1
    all_goals
      refine funF_walk hTb Tryz.func155 rfl rfl Tryz.ntmps155 (by simp) (by simp) ?_
      (conv => whnf); repeat' (first
    | (refine And.intro ?_ ?_ <;> ((try intro h) <;> (try simp only [Bool.not_true, Bool.not_false, decide_eq_true_eq, decide_eq_false_iff_not, Int.not_lt, Int.not_le, gt_iff_lt, ge_iff_le] at h) <;> first | exact absurd h Bool.false_ne_true | exact absurd h.symm Bool.false_ne_true | conv => whnf))
    | (refine VL.drawS hTb hMix (by kernel_rfl) (by kernel_rfl) (by kernel_rfl) ?_; conv => whnf)
    | (refine Need.mk ?_; kernel_rfl) | (refine Need.mk ⟨rfl, ?_⟩; decide)
    | ((exfalso; omega))
    | (refine VR.pure hTb rfl rfl (o_purN (cN) rfl rfl rfl ⟨rfl, rfl, rfl, rfl⟩ rfl) ?_; conv => whnf)
    | (refine DT.pure hTb rfl (o_purN (cN) rfl rfl rfl ⟨rfl, rfl, rfl, rfl⟩ rfl) ?_; conv => whnf)
    | (refine VR.pure hTb rfl rfl (o_purN (cA) rfl rfl rfl ⟨rfl, rfl, rfl, rfl⟩ rfl) ?_; conv => whnf)
    | (refine DT.pure hTb rfl (o_purN (cA) rfl rfl rfl ⟨rfl, rfl, rfl, rfl⟩ rfl) ?_; conv => whnf)
    | (refine VR.fun hTb rfl rfl (o_funN (c0) false [] (fun h => by cases h) (by simp) rfl rfl rfl rfl rfl ⟨rfl, rfl, rfl, rfl⟩ rfl rfl) ?_; conv => whnf)
    | (refine DT.fun hTb rfl (o_funN (c0) false [] (fun h => by cases h) (by simp) rfl rfl rfl rfl rfl ⟨rfl, rfl, rfl, rfl⟩ rfl rfl) rfl ?_; conv => whnf))
    all_goals (first
      | rfl
      | exact endW [1036] rfl rfl rfl rfl rfl (LeS.refl _) rfl rfl
      | exact endW [1392] rfl rfl rfl rfl rfl (LeS.refl _) rfl rfl
      | exact endW [1400] rfl rfl rfl rfl rfl (LeS.refl _) rfl rfl
      | trace_state)
  rw [hn] at cA hr
  rw [if_neg (by omega), Int.toNat_natCast] at hr
  have eg : s.getD j (kCol 0) = s[j] := by simp [List.getD, hj]
  rw [eg] at hr
  have hmj : s[j].md := hs _ (List.getElem_mem hj)
  have hrow : s[0 + ((j : Nat) : Int).toNat]? = some s[j] := by rw [Int.toNat_natCast, Nat.zero_add, List.getElem?_eq_getElem hj]
  have hset : ∀ v : Col, s.set j v = s.set (0 + ((j : Nat) : Int).toNat) v := fun v => by rw [Int.toNat_natCast, Nat.zero_add]
  have ew : IntKind.i64.wrap ((j : Int) + 1) = ((j + 1 : Nat) : Int) := by rw [IntKind.wrap_i64]; omega
  rcases hk with rfl | rfl | rfl | rfl
  · exact absurd rfl hk1
  · -- taken out
    rw [if_pos rfl] at hr
    subst hr
    have hmd : mdCols (s.eraseIdx j) := hs.erase
    have hlen : (s.eraseIdx j).length ≤ s.length := List.length_eraseIdx_le _ _
    have cS := hok _ hmd (by omega)
    have cC := c_cloneCol (s.eraseIdx j) (by omega)
    have cD := c_DeleteCol s j hj (by omega)
    obtain ⟨x, hx⟩ : ∃ x, shapeOk (s.eraseIdx j) = x := ⟨_, rfl⟩
    rw [hx] at cS
    have hr2 : okO s (some (s.eraseIdx j)) = if x then (s.eraseIdx j, true) else (s, false) := by simp only [okO, hx]
    rw [hr2]
    refine funF_walk hTb Tryz.func155 rfl rfl Tryz.ntmps155 (by simp) (by simp) ?_
    cases x <;> (conv => whnf); repeat' (first
    | (refine And.intro ?_ ?_ <;> ((try intro h) <;> (try simp only [Bool.not_true, Bool.not_false, decide_eq_true_eq, decide_eq_false_iff_not, Int.not_lt, Int.not_le, gt_iff_lt, ge_iff_le] at h) <;> first | exact absurd h Bool.false_ne_true | exact absurd h.symm Bool.false_ne_true | conv => whnf))
    | (refine VL.drawS hTb hMix (by kernel_rfl) (by kernel_rfl) (by kernel_rfl) ?_; conv => whnf)
    | (refine Need.mk ?_; kernel_rfl) | (refine Need.mk ⟨rfl, ?_⟩; decide)
    | ((exfalso; omega))
    | (refine VR.pure hTb rfl rfl (o_purN (cN) rfl rfl rfl ⟨rfl, rfl, rfl, rfl⟩ rfl) ?_; conv => whnf)
    | (refine DT.pure hTb rfl (o_purN (cN) rfl rfl rfl ⟨rfl, rfl, rfl, rfl⟩ rfl) ?_; conv => whnf)
    | (refine VR.pure hTb rfl rfl (o_purN (cA) rfl rfl rfl ⟨rfl, rfl, rfl, rfl⟩ rfl) ?_; conv => whnf)
    | (refine DT.pure hTb rfl (o_purN (cA) rfl rfl rfl ⟨rfl, rfl, rfl, rfl⟩ rfl) ?_; conv => whnf)
    | (refine VR.fun hTb rfl rfl (o_funN (c0) false [] (fun h => by cases h) (by simp) rfl rfl rfl rfl rfl ⟨rfl, rfl, rfl, rfl⟩ rfl rfl) ?_; conv => whnf)
    | (refine DT.fun hTb rfl (o_funN (c0) false [] (fun h => by cases h) (by simp) rfl rfl rfl rfl rfl ⟨rfl, rfl, rfl, rfl⟩ rfl rfl) rfl ?_; conv => whnf)
    | (refine VR.fun hTb rfl rfl (o_funN cD false [1036] (fun h => by cases h) (by simp) rfl rfl rfl rfl rfl ⟨rfl, rfl, rfl, rfl⟩ ?_ rfl) ?_; exact congrArg (fun x => [Slot.one (.own 0 0 s.length), iS j, .one (.g (.int .i64 x))]) ew; conv => whnf)
    | (refine VR.pure hTb rfl rfl (o_purN cS rfl rfl rfl ⟨rfl, rfl, rfl, rfl⟩ ?_) ?_; exact congrArg (fun s => [s]) (brwE hj _); conv => whnf)
    | (refine VR.fun hTb rfl rfl (o_funN (cC) true [] (fun _ => grNewCol _ _) (by simp) rfl rfl rfl rfl rfl ⟨rfl, rfl, rfl, rfl⟩ ?_ rfl) ?_; exact congrArg (fun s => [s]) (brwE hj _); conv => whnf)
    | (refine DT.fun hTb rfl (o_funN (cC) true [] (fun _ => grNewCol _ _) (by simp) rfl rfl rfl rfl rfl ⟨rfl, rfl, rfl, rfl⟩ ?_ rfl) rfl ?_; exact congrArg (fun s => [s]) (brwE hj _); conv => whnf))
    all_goals (first
      | rfl
      | exact endW [1036] rfl rfl rfl rfl rfl (LeS.refl _) rfl rfl
      | exact endW [1392] rfl rfl rfl rfl rfl (LeS.refl _) rfl rfl
      | exact endW [1400] rfl rfl rfl rfl rfl (LeS.refl _) rfl rfl
      | trace_state)
  · -- named otherwise
    rw [if_neg (by omega), if_pos rfl, hset] at hr
    generalize s[j] = sj at hrow hr hmj
    obtain ⟨x1, x2, x3, x4, ⟨x5, x6, x7⟩⟩ := sj
    subst hr
    have hmd : mdCols (s.set (0 + ((j : Nat) : Int).toNat) (ccName ⟨x1, x2, x3, x4, ⟨x5, x6, x7⟩⟩ nw)) := hs.set ⟨hc2, hmj.2⟩
    simp only [ccName] at hmd ⊢
    have cS := hok _ hmd (by simp; omega)
    have cC := c_cloneCol (s.set (0 + ((j : Nat) : Int).toNat) ⟨nw, x2, x3, x4, ⟨x5, x6, x7⟩⟩) (by simp; omega)
    obtain ⟨x, hx⟩ : ∃ x, shapeOk (s.set (0 + ((j : Nat) : Int).toNat) ⟨nw, x2, x3, x4, ⟨x5, x6, x7⟩⟩) = x := ⟨_, rfl⟩
    rw [hx] at cS
    have hr2 : okO s (some (s.set (0 + ((j : Nat) : Int).toNat) ⟨nw, x2, x3, x4, ⟨x5, x6, x7⟩⟩)) = if x then (s.set (0 + ((j : Nat) : Int).toNat) ⟨nw, x2, x3, x4, ⟨x5, x6, x7⟩⟩, true) else (s, false) := by simp only [okO, hx]
    rw [hr2]
    refine funF_walk hTb Tryz.func155 rfl rfl Tryz.ntmps155 (by simp) (by simp) ?_
    cases x <;> (conv => whnf); repeat' (first
    | (refine And.intro ?_ ?_ <;> ((try intro h) <;> (try simp only [Bool.not_true, Bool.not_false, decide_eq_true_eq, decide_eq_false_iff_not, Int.not_lt, Int.not_le, gt_iff_lt, ge_iff_le] at h) <;> first | exact absurd h Bool.false_ne_true | exact absurd h.symm Bool.false_ne_true | conv => whnf))
    | (refine VL.drawS hTb hMix (by kernel_rfl) (by kernel_rfl) (by kernel_rfl) ?_; conv => whnf)
    | (refine Need.mk ?_; kernel_rfl) | (refine Need.mk ⟨rfl, ?_⟩; decide)
    | ((exfalso; omega))
    | (refine VR.pure hTb rfl rfl (o_purN (cN) rfl rfl rfl ⟨rfl, rfl, rfl, rfl⟩ rfl) ?_; conv => whnf)
    | (refine DT.pure hTb rfl (o_purN (cN) rfl rfl rfl ⟨rfl, rfl, rfl, rfl⟩ rfl) ?_; conv => whnf)
    | (refine VR.pure hTb rfl rfl (o_purN (cA) rfl rfl rfl ⟨rfl, rfl, rfl, rfl⟩ rfl) ?_; conv => whnf)
    | (refine DT.pure hTb rfl (o_purN (cA) rfl rfl rfl ⟨rfl, rfl, rfl, rfl⟩ rfl) ?_; conv => whnf)
    | (refine VR.fun hTb rfl rfl (o_funN (c0) false [] (fun h => by cases h) (by simp) rfl rfl rfl rfl rfl ⟨rfl, rfl, rfl, rfl⟩ rfl rfl) ?_; conv => whnf)
    | (refine DT.fun hTb rfl (o_funN (c0) false [] (fun h => by cases h) (by simp) rfl rfl rfl rfl rfl ⟨rfl, rfl, rfl, rfl⟩ rfl rfl) rfl ?_; conv => whnf)
    | (refine Need.mk ?_; exact ⟨rfl, by omega, by omega⟩)
    | (refine VR.op hTb rfl rfl (o_storeM hTb rfl rfl rfl rfl rfl (hrow) rfl rfl rfl ⟨rfl, by decide⟩ (c' := ⟨_, _, _, _, ⟨_, _, _⟩⟩) rfl) rfl ?_; conv => whnf)
    | (refine DT.op hTb rfl (o_storeM hTb rfl rfl rfl rfl rfl (hrow) rfl rfl rfl ⟨rfl, by decide⟩ (c' := ⟨_, _, _, _, ⟨_, _, _⟩⟩) rfl) rfl ?_; conv => whnf)
    | (refine VR.pure hTb rfl rfl (o_purN cS rfl rfl rfl ⟨rfl, rfl, rfl, rfl⟩ ?_) ?_; exact congrArg (fun s => [s]) (brwG (by simp)); conv => whnf)
    | (refine VR.fun hTb rfl rfl (o_funN (cC) true [] (fun _ => grNewCol _ _) (by simp) rfl rfl rfl rfl rfl ⟨rfl, rfl, rfl, rfl⟩ ?_ rfl) ?_; exact congrArg (fun s => [s]) (brwG (by simp)); conv => whnf)
    | (refine DT.fun hTb rfl (o_funN (cC) true [] (fun _ => grNewCol _ _) (by simp) rfl rfl rfl rfl rfl ⟨rfl, rfl, rfl, rfl⟩ ?_ rfl) rfl ?_; exact congrArg (fun s => [s]) (brwG (by simp)); conv => whnf))
    all_goals (first
      | rfl
      | exact endW [1036] rfl rfl rfl rfl rfl (LeS.refl _) rfl rfl
      | exact endW [1392] rfl rfl rfl rfl rfl (LeS.refl _) rfl rfl
      | exact endW [1400] rfl rfl rfl rfl rfl (LeS.refl _) rfl rfl
      | trace_state)
  · -- of another kind
    rw [if_neg (by omega), if_neg (by omega), hset] at hr
    generalize s[j] = sj at hrow hr hmj
    obtain ⟨x1, x2, x3, x4, ⟨x5, x6, x7⟩⟩ := sj
    have cV := c_implValAs x5 x6 x7 ck (by have := hmj.2; simp only at this; omega)
    obtain ⟨⟨y1, y2, y3⟩, hy⟩ : ∃ y, valAs ⟨x5, x6, x7⟩ ck = y := ⟨_, rfl⟩
    have hys := valAs_size ⟨x5, x6, x7⟩ ck
    rw [hy] at cV hys
    by_cases he : ck = x2
    · rw [if_pos he] at hr
      subst he
      subst hr
      refine funF_walk hTb Tryz.func155 rfl rfl Tryz.ntmps155 (by simp) (by simp) ?_
      (conv => whnf); repeat' (first
    | (refine And.intro ?_ ?_ <;> ((try intro h) <;> (try simp only [Bool.not_true, Bool.not_false, decide_eq_true_eq, decide_eq_false_iff_not, Int.not_lt, Int.not_le, gt_iff_lt, ge_iff_le] at h) <;> first | exact absurd h Bool.false_ne_true | exact absurd h.symm Bool.false_ne_true | conv => whnf))
    | (refine VL.drawS hTb hMix (by kernel_rfl) (by kernel_rfl) (by kernel_rfl) ?_; conv => whnf)
    | (refine Need.mk ?_; kernel_rfl) | (refine Need.mk ⟨rfl, ?_⟩; decide)
    | ((exfalso; omega))
    | (refine VR.pure hTb rfl rfl (o_purN (cN) rfl rfl rfl ⟨rfl, rfl, rfl, rfl⟩ rfl) ?_; conv => whnf)
    | (refine DT.pure hTb rfl (o_purN (cN) rfl rfl rfl ⟨rfl, rfl, rfl, rfl⟩ rfl) ?_; conv => whnf)
    | (refine VR.pure hTb rfl rfl (o_purN (cA) rfl rfl rfl ⟨rfl, rfl, rfl, rfl⟩ rfl) ?_; conv => whnf)
    | (refine DT.pure hTb rfl (o_purN (cA) rfl rfl rfl ⟨rfl, rfl, rfl, rfl⟩ rfl) ?_; conv => whnf)
    | (refine VR.fun hTb rfl rfl (o_funN (c0) false [] (fun h => by cases h) (by simp) rfl rfl rfl rfl rfl ⟨rfl, rfl, rfl, rfl⟩ rfl rfl) ?_; conv => whnf)
    | (refine DT.fun hTb rfl (o_funN (c0) false [] (fun h => by cases h) (by simp) rfl rfl rfl rfl rfl ⟨rfl, rfl, rfl, rfl⟩ rfl rfl) rfl ?_; conv => whnf)
    | (refine Need.mk ?_; exact ⟨rfl, by omega, by omega⟩)
    | (refine VR.op hTb rfl rfl (o_loadM hTb rfl rfl rfl rfl (hrow) ⟨by decide, by decide⟩) rfl ?_; conv => whnf)
    | (refine DT.op hTb rfl (o_loadM hTb rfl rfl rfl rfl (hrow) ⟨by decide, by decide⟩) rfl ?_; conv => whnf))
      all_goals (first
        | exact endW [1036] rfl rfl rfl rfl rfl (LeS.refl _) rfl rfl
        | (exfalso; clear cN cA c0 hok cV; simp_all; done)
        | trace_state)
    · rw [if_neg he] at hr
      simp only [ccKind, hy] at hr
      have hrow2 : (s.set (0 + ((j : Nat) : Int).toNat) ⟨x1, ck, x3, x4, ⟨x5, x6, x7⟩⟩)[0 + ((j : Nat) : Int).toNat]? = some ⟨x1, ck, x3, x4, ⟨x5, x6, x7⟩⟩ := by rw [Int.toNat_natCast, Nat.zero_add, List.getElem?_set_self hj]
      have e2 : s.set (0 + ((j : Nat) : Int).toNat) ⟨x1, ck, x3, x4, ⟨y1, y2, y3⟩⟩ = (s.set (0 + ((j : Nat) : Int).toNat) ⟨x1, ck, x3, x4, ⟨x5, x6, x7⟩⟩).set (0 + ((j : Nat) : Int).toNat) ⟨x1, ck, x3, x4, ⟨y1, y2, y3⟩⟩ := by rw [List.set_set]
      subst hr
      have hmd : mdCols (s.set (0 + ((j : Nat) : Int).toNat) ⟨x1, ck, x3, x4, ⟨y1, y2, y3⟩⟩) := hs.set ⟨hmj.1, by simp only at hys ⊢; omega⟩
      have cS := hok _ hmd (by simp; omega)
      have cC := c_cloneCol (s.set (0 + ((j : Nat) : Int).toNat) ⟨x1, ck, x3, x4, ⟨y1, y2, y3⟩⟩) (by simp; omega)
      obtain ⟨x, hx⟩ : ∃ x, shapeOk (s.set (0 + ((j : Nat) : Int).toNat) ⟨x1, ck, x3, x4, ⟨y1, y2, y3⟩⟩) = x := ⟨_, rfl⟩
      rw [hx] at cS
      have hr2 : okO s (some (s.set (0 + ((j : Nat) : Int).toNat) ⟨x1, ck, x3, x4, ⟨y1, y2, y3⟩⟩)) = if x then (s.set (0 + ((j : Nat) : Int).toNat) ⟨x1, ck, x3, x4, ⟨y1, y2, y3⟩⟩, true) else (s, false) := by simp only [okO, hx]
      rw [hr2]
      rw [e2] at cS cC
      rw [e2]
      refine funF_walk hTb Tryz.func155 rfl rfl Tryz.ntmps155 (by simp) (by simp) ?_
      cases x <;> (conv => whnf); repeat' (first
    | (refine And.intro ?_ ?_ <;> ((try intro h) <;> (try simp only [Bool.not_true, Bool.not_false, decide_eq_true_eq, decide_eq_false_iff_not, Int.not_lt, Int.not_le, gt_iff_lt, ge_iff_le] at h) <;> first | exact absurd h Bool.false_ne_true | exact absurd h.symm Bool.false_ne_true | conv => whnf))
    | (refine VL.drawS hTb hMix (by kernel_rfl) (by kernel_rfl) (by kernel_rfl) ?_; conv => whnf)
    | (refine Need.mk ?_; kernel_rfl) | (refine Need.mk ⟨rfl, ?_⟩; decide)
    | ((exfalso; omega))
    | (refine VR.pure hTb rfl rfl (o_purN (cN) rfl rfl rfl ⟨rfl, rfl, rfl, rfl⟩ rfl) ?_; conv => whnf)
    | (refine DT.pure hTb rfl (o_purN (cN) rfl rfl rfl ⟨rfl, rfl, rfl, rfl⟩ rfl) ?_; conv => whnf)
    | (refine VR.pure hTb rfl rfl (o_purN (cA) rfl rfl rfl ⟨rfl, rfl, rfl, rfl⟩ rfl) ?_; conv => whnf)
    | (refine DT.pure hTb rfl (o_purN (cA) rfl rfl rfl ⟨rfl, rfl, rfl, rfl⟩ rfl) ?_; conv => whnf)
    | (refine VR.fun hTb rfl rfl (o_funN (c0) false [] (fun h => by cases h) (by simp) rfl rfl rfl rfl rfl ⟨rfl, rfl, rfl, rfl⟩ rfl rfl) ?_; conv => whnf)
    | (refine DT.fun hTb rfl (o_funN (c0) false [] (fun h => by cases h) (by simp) rfl rfl rfl rfl rfl ⟨rfl, rfl, rfl, rfl⟩ rfl rfl) rfl ?_; conv => whnf)
    | (refine Need.mk ?_; exact ⟨rfl, by omega, by omega⟩)
    | (refine VR.op hTb rfl rfl (o_loadM hTb rfl rfl rfl rfl (hrow) ⟨by decide, by decide⟩) rfl ?_; conv => whnf)
    | (refine DT.op hTb rfl (o_loadM hTb rfl rfl rfl rfl (hrow) ⟨by decide, by decide⟩) rfl ?_; conv => whnf)
    | (refine VR.op hTb rfl rfl (o_storeM hTb rfl rfl rfl rfl rfl (hrow) rfl rfl rfl ⟨rfl, by decide⟩ (c' := ⟨_, _, _, _, ⟨_, _, _⟩⟩) rfl) rfl ?_; conv => whnf)
    | (refine DT.op hTb rfl (o_storeM hTb rfl rfl rfl rfl rfl (hrow) rfl rfl rfl ⟨rfl, by decide⟩ (c' := ⟨_, _, _, _, ⟨_, _, _⟩⟩) rfl) rfl ?_; conv => whnf)
    | (refine VR.pure hTb rfl rfl (o_purN (cV) rfl rfl rfl ⟨rfl, rfl, rfl, rfl⟩ rfl) ?_; conv => whnf)
    | (refine DT.pure hTb rfl (o_purN (cV) rfl rfl rfl ⟨rfl, rfl, rfl, rfl⟩ rfl) ?_; conv => whnf)
    | (refine VR.op hTb rfl rfl (o_storeM hTb rfl rfl rfl rfl rfl (hrow2) rfl rfl rfl ⟨rfl, by decide⟩ (c' := ⟨_, _, _, _, ⟨_, _, _⟩⟩) rfl) rfl ?_; conv => whnf)
    | (refine DT.op hTb rfl (o_storeM hTb rfl rfl rfl rfl rfl (hrow2) rfl rfl rfl ⟨rfl, by decide⟩ (c' := ⟨_, _, _, _, ⟨_, _, _⟩⟩) rfl) rfl ?_; conv => whnf)
    | (refine VR.pure hTb rfl rfl (o_purN cS rfl rfl rfl ⟨rfl, rfl, rfl, rfl⟩ ?_) ?_; exact congrArg (fun s => [s]) (brwG (by simp)); conv => whnf)
    | (refine VR.fun hTb rfl rfl (o_funN (cC) true [] (fun _ => grNewCol _ _) (by simp) rfl rfl rfl rfl rfl ⟨rfl, rfl, rfl, rfl⟩ ?_ rfl) ?_; exact congrArg (fun s => [s]) (brwG (by simp)); conv => whnf)
    | (refine DT.fun hTb rfl (o_funN (cC) true [] (fun _ => grNewCol _ _) (by simp) rfl rfl rfl rfl rfl ⟨rfl, rfl, rfl, rfl⟩ ?_ rfl) rfl ?_; exact congrArg (fun s => [s]) (brwG (by simp)); conv => whnf))
      all_goals (first
        | rfl
        | exact endW [1392] rfl rfl rfl rfl rfl (LeS.refl _) rfl rfl
        | exact endW [1400] rfl rfl rfl rfl rfl (LeS.refl _) rfl rfl
        | (exfalso; clear cN cA c0 hok cV cS cC; simp_all; done)
        | trace_state)
end Go.Vl
