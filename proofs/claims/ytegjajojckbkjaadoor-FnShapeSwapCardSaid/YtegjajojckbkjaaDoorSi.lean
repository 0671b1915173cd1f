/- Contracts: a value read from its text. -/
import Derived.Test.YtegjajojckbkjaaDoorSg
namespace Go.Vl
open Go Go.RowKit Go.Proofs
set_option maxRecDepth 100000
set_option linter.unusedSimpArgs false
set_option linter.unusedVariables false
set_option maxHeartbeats 1600000

def qb : ByteArray := ⟨#[39]⟩
def noneB : ByteArray := ⟨#[110, 111, 110, 101]⟩
def mid (t : ByteArray) : ByteArray := t.extract 1 (t.size - 1)
def qt (t : ByteArray) : Bool := Lib.hasPrefix t.data.toList qb.data.toList && Lib.hasSuffix t.data.toList qb.data.toList && decide (2 ≤ t.size)
def rdV (t : ByteArray) : Option Val :=
  if t.data.toList = noneB.data.toList then some ⟨0, 0, ⟨#[]⟩⟩ else
  match numOf t.data.toList with
  | some n => if -999 ≤ n ∧ n ≤ 999 then some ⟨1, n, ⟨#[]⟩⟩ else none
  | none => if qt t = true ∧ valOk ⟨2, 0, mid t⟩ = true then some ⟨2, 0, mid t⟩ else none
def rdVS (o : Option Val) : Slot := match o with
  | some v => .tup [(true, encVal v), (false, [.g (.bool true)])]
  | none => .tup [(true, encVal ⟨0, 0, ⟨#[]⟩⟩), (false, [.g (.bool false)])]
theorem ba_ext {a b : ByteArray} (h : a.data.toList = b.data.toList) : a = b := by
  apply ByteArray.ext; exact Array.toList_inj.1 h
theorem mid_list {t : ByteArray} : (mid t).data.toList = (t.data.toList.take (t.size - 1)).drop 1 := by
  unfold mid
  rw [ByteArray.data_extract, Array.toList_extract, List.extract_eq_take_drop, List.drop_take]
theorem app3 (m : ByteArray) : (qb ++ m ++ qb).data.toList = 39 :: (m.data.toList ++ [39]) := by
  simp [qb, ByteArray.data_append]
theorem qt_iff {t : ByteArray} (h2 : 2 ≤ t.size) : qt t = true ↔ (qb ++ mid t ++ qb).data.toList = t.data.toList := by
  have hs := size_len t
  have e1 : qb.data.toList = [39] := rfl
  rw [app3, mid_list]
  unfold qt Lib.hasPrefix Lib.hasSuffix
  rw [e1]
  simp only [Bool.and_eq_true, decide_eq_true_eq, List.isPrefixOf_iff_prefix, List.isSuffixOf_iff_suffix]
  generalize t.data.toList = l at hs
  rw [hs] at h2 ⊢
  constructor
  · rintro ⟨⟨⟨r, rfl⟩, ⟨r', hr⟩⟩, _⟩
    have hl : 1 ≤ r.length := by simp at h2; omega
    have h3 : r ≠ [] := by intro e; subst e; simp at hl
    obtain ⟨r0, c, rfl⟩ : ∃ r0 c, r = r0 ++ [c] := ⟨r.dropLast, r.getLast h3, (List.dropLast_concat_getLast h3).symm⟩
    have h4 : r' ++ [39] = (39 :: r0) ++ [c] := by simpa using hr
    have h5 := List.append_inj_right' h4 rfl
    simp at h5; subst h5
    simp
  · intro h
    refine ⟨⟨⟨_, by simpa using h⟩, ⟨39 :: (l.take (l.length - 1)).drop 1, by simpa using h⟩⟩, h2⟩
theorem num_head {t : ByteArray} {n : Int} (h : numOf t.data.toList = some n) : t.data.toList.head? ≠ some 39 := by
  intro h1
  cases hl : t.data.toList with
  | nil => rw [hl] at h1; cases h1
  | cons a l =>
    rw [hl] at h1 h
    simp at h1; subst h1
    unfold numOf numR at h
    rw [if_neg (by simp)] at h
    split at h
    · cases h
    · simp [valD] at h
theorem qt_head {t : ByteArray} (h : qt t = true) : t.data.toList.head? = some 39 := by
  unfold qt Lib.hasPrefix at h
  simp only [Bool.and_eq_true, List.isPrefixOf_iff_prefix] at h
  obtain ⟨⟨⟨r, hr⟩, _⟩, _⟩ := h
  rw [← hr]; rfl
theorem qt_num {t : ByteArray} (h : qt t = true) : numOf t.data.toList = none := by
  cases e : numOf t.data.toList with
  | none => rfl
  | some n => exact absurd (qt_head h) (num_head e)
theorem num_none {t : ByteArray} (h : t.data.toList = noneB.data.toList) : numOf t.data.toList = none := by
  rw [h]; decide +kernel
theorem qt_none {t : ByteArray} (h : t.data.toList = noneB.data.toList) : qt t = false := by
  cases e : qt t with
  | false => rfl
  | true => have := qt_head e; rw [h] at this; revert this; decide
theorem qt_size {t : ByteArray} (h : qt t = true) : 2 ≤ t.size := by
  unfold qt at h; simp only [Bool.and_eq_true, decide_eq_true_eq] at h; exact h.2
theorem qt_parts {t : ByteArray} (h : qt t = true) : Lib.hasPrefix t.data.toList qb.data.toList = true ∧ Lib.hasSuffix t.data.toList qb.data.toList = true := by
  unfold qt at h; simp only [Bool.and_eq_true] at h; exact h.1
theorem qt_of {t : ByteArray} (h1 : Lib.hasPrefix t.data.toList qb.data.toList = true) (h2 : Lib.hasSuffix t.data.toList qb.data.toList = true) (h3 : 2 ≤ t.size) : qt t = true := by
  unfold qt; rw [h1, h2]; simpa using h3
theorem mid_size {t : ByteArray} : (mid t).size = t.size - 2 := by
  rw [size_len, mid_list, size_len]; simp; omega
theorem valText_num {n : Int} (h : -999 ≤ n ∧ n ≤ 999) : valText ⟨1, n, ⟨#[]⟩⟩ = bl (Lib.itoa n) := by
  unfold valText; rw [valOk_n, if_pos (by simp; omega), if_pos rfl]
theorem valText_mid {m : ByteArray} : valText ⟨2, 0, m⟩ = if valOk ⟨2, 0, m⟩ = true then qb ++ m ++ qb else ⟨#[]⟩ := by
  unfold valText; rfl
theorem valText_zero : valText ⟨0, 0, ⟨#[]⟩⟩ = noneB := by decide +kernel
theorem bl_list (l : List UInt8) : (bl l).data.toList = l := by simp [bl]
theorem valOk_mid {m : ByteArray} (h : valOk ⟨2, 0, m⟩ = true) : m.size ≤ 4 := by
  have := valOk_text h rfl; simpa using this
theorem empty_ne {t : ByteArray} (h : 2 ≤ t.size) : (⟨#[]⟩ : ByteArray).data.toList ≠ t.data.toList := by
  intro e; rw [size_len, ← e] at h; simp at h
theorem num_nil {t : ByteArray} (h : t.data.toList = []) : numOf t.data.toList = none := by rw [h]; rfl
-- what the program does
theorem impl_q {t : ByteArray} (h : qt t = true) : rdV t = if (valText ⟨2, 0, mid t⟩).data.toList = t.data.toList then some ⟨2, 0, mid t⟩ else none := by
  have h2 := qt_size h
  unfold rdV
  rw [if_neg (fun e => by rw [qt_none e] at h; cases h), qt_num h]
  simp only [h, true_and]
  rw [valText_mid]
  by_cases hv : valOk ⟨2, 0, mid t⟩ = true
  · rw [if_pos hv, if_pos hv, if_pos ((qt_iff h2).1 h)]
  · rw [if_neg hv, if_neg hv, if_neg (empty_ne h2)]
theorem impl_n {t : ByteArray} (h : qt t = false) : rdV t = if (valText (numV t)).data.toList = t.data.toList then some (numV t) else none := by
  unfold rdV
  by_cases h0 : t.data.toList = noneB.data.toList
  · have e : numV t = ⟨0, 0, ⟨#[]⟩⟩ := by unfold numV; rw [num_none h0]
    rw [if_pos h0, e, valText_zero, if_pos h0.symm]
  · rw [if_neg h0]
    unfold numV
    cases hn : numOf t.data.toList with
    | none =>
      simp only [h, Bool.false_eq_true, false_and, if_false]
      rw [valText_zero, if_neg (fun e => h0 e.symm)]
    | some n =>
      simp only
      by_cases hr : -999 ≤ n ∧ n ≤ 999
      · rw [if_pos hr, if_pos hr, valText_num hr, bl_list, if_pos (itoa_of_num hn)]
      · rw [if_neg hr, if_neg hr, valText_zero, if_neg (fun e => h0 e.symm)]
theorem numV_ne {t : ByteArray} (h : (valText (numV t)).data.toList = t.data.toList) : t.data.toList ≠ [] := by
  intro e
  have e2 : numV t = ⟨0, 0, ⟨#[]⟩⟩ := by unfold numV; rw [num_nil e]
  rw [e2, valText_zero, e] at h
  revert h; decide
-- what the reference does
theorem spec_q {t : ByteArray} (h0 : t.data.toList ≠ noneB.data.toList) (hn : numOf t.data.toList = none) (h2 : 2 ≤ t.size) (hv : valOk ⟨2, 0, mid t⟩ = true) :
    rdV t = if (valText ⟨2, 0, mid t⟩).data.toList = t.data.toList then some ⟨2, 0, mid t⟩ else none := by
  unfold rdV
  rw [if_neg h0, hn, valText_mid, if_pos hv]
  simp only [hv, and_true]
  by_cases hq : qt t = true
  · rw [if_pos hq, if_pos ((qt_iff h2).1 hq)]
  · rw [if_neg hq, if_neg (fun e => hq ((qt_iff h2).2 e))]
theorem spec_no {t : ByteArray} (h0 : t.data.toList ≠ noneB.data.toList) (hn : numOf t.data.toList = none) (hv : valOk ⟨2, 0, mid t⟩ = true → t.size < 2 ∨ 6 < t.size) : rdV t = none := by
  unfold rdV
  rw [if_neg h0, hn]
  simp only
  refine if_neg fun h => ?_
  have h1 := qt_size h.1
  have h3 := valOk_mid h.2
  have h4 := mid_size (t := t)
  rcases hv h.2 with h | h <;> omega
theorem spec_n {t : ByteArray} {n : Int} (h0 : t.data.toList ≠ noneB.data.toList) (hn : numOf t.data.toList = some n) : rdV t = if -999 ≤ n ∧ n ≤ 999 then some ⟨1, n, ⟨#[]⟩⟩ else none := by
  unfold rdV
  rw [if_neg h0, hn]
theorem num0_ne {t : ByteArray} (hn : numOf t.data.toList = none) : (valText ⟨1, 0, ⟨#[]⟩⟩).data.toList ≠ t.data.toList := by
  intro e
  rw [valText_num (by omega), bl_list] at e
  rw [← e, (num_of_itoa (n := 0) (by omega) (by omega)).1] at hn
  cases hn
theorem sub_mid {t : ByteArray} (h : 1 ≤ t.size) (hs : t.size ≤ maxLen) : IntKind.i64.wrap ((t.size : Int) - 1) = ((t.size - 1 : Nat) : Int) := by
  rw [IntKind.wrap_i64]; unfold maxLen at hs; omega
theorem num1k {n : Int} (h : -999 ≤ n ∧ n ≤ 999) : valOk ⟨1, n, ⟨#[]⟩⟩ = true := by rw [valOk_n]; simp; omega
end Go.Vl
