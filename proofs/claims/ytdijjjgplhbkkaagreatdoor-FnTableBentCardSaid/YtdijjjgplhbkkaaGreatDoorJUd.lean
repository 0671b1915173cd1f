/- Contracts: a text as a number, as the reference reads it. The plain law of numerals: what the reference reads as a number is that number's own numeral. Contracts: a text as a number, as the program reads it. Contracts: a value as one of another kind. Contracts: a change of columns: what it names. Contracts: a value read from its text. The plain laws of values: what is turned into another kind, and what is read. -/
import Derived.Test.YtdijjjgplhbkkaaGreatDoorJUc
set_option linter.unusedSimpArgs false
set_option linter.unusedVariables false
set_option linter.unnecessarySimpa false

namespace Go.Vl
open Go Go.RowKit Go.Proofs
set_option maxRecDepth 100000
set_option linter.unusedSimpArgs false
set_option linter.unusedVariables false
set_option linter.unnecessarySimpa false
set_option maxHeartbeats 800000

def valD : Nat → List UInt8 → Option Nat
  | acc, [] => some acc
  | acc, c :: r => if 48 ≤ c.toNat ∧ c.toNat ≤ 57 then valD (acc * 10 + (c.toNat - 48)) r else none
def numR (neg : Bool) (l : List UInt8) : Option Int :=
  if l.length = 0 ∨ 17 < l.length ∨ (l.head? = some 48 ∧ (1 < l.length ∨ neg = true)) then none else (valD 0 l).map fun (n : Nat) => if neg then -(n : Int) else n
def numOf (l : List UInt8) : Option Int := if l.head? = some 45 then numR true l.tail else numR false l
def numS : Option Int → Slot
  | some n => .tup [(false, [.g (.int .i64 n)]), (false, [.g (.bool true)])]
  | none => .tup [(false, [.g (.int .i64 0)]), (false, [.g (.bool false)])]
theorem sg_get (s : ByteArray) (i : Nat) : sgetI s i = (((s.data.toList[i]?).getD 0).toNat : Int) := by
  unfold sgetI
  have : s[i]? = s.data.toList[i]? := by
    rw [Array.getElem?_toList]
    by_cases h : i < s.size
    · rw [getElem?_pos s i h, getElem?_pos s.data i h]; rfl
    · rw [getElem?_neg s i h, getElem?_neg s.data i h]
  rw [this]
theorem size_len (s : ByteArray) : s.size = s.data.toList.length := Array.length_toList.symm
theorem ext_tail (s : ByteArray) : (s.extract 1 s.size).data.toList = s.data.toList.tail := by
  rw [ByteArray.data_extract, Array.toList_extract, List.extract_eq_take_drop, List.take_of_length_le, List.drop_one]
  rw [List.length_drop, ← size_len]; exact Nat.le_refl _
theorem head_sg (R : ByteArray) (c : UInt8) : R.data.toList.head? = some c ↔ (0 < R.size ∧ sgetI R 0 = (c.toNat : Int)) := by
  rw [sg_get, size_len]
  cases R.data.toList with
  | nil => simp
  | cons a l =>
    simp
    constructor
    · rintro rfl; rfl
    · intro h; exact UInt8.toNat_inj.1 (by omega)
theorem numOf_eq (s : ByteArray) : numOf s.data.toList =
    if 0 < s.size ∧ sgetI s 0 = 45 then (if (s.extract 1 s.size).size = 0 ∨ 17 < (s.extract 1 s.size).size ∨ sgetI (s.extract 1 s.size) 0 = 48 then none else (valD 0 (s.extract 1 s.size).data.toList).map fun (n : Nat) => -(n : Int))
    else (if s.size = 0 ∨ 17 < s.size ∨ (sgetI s 0 = 48 ∧ 1 < s.size) then none else (valD 0 s.data.toList).map fun (n : Nat) => (n : Int)) := by
  unfold numOf
  have h0 : s.data.toList.head? = some 45 ↔ (0 < s.size ∧ sgetI s 0 = 45) := head_sg s 45
  by_cases h : 0 < s.size ∧ sgetI s 0 = 45
  · rw [if_pos (h0.2 h), if_pos h, ← ext_tail]
    unfold numR
    have h1 : (s.extract 1 s.size).data.toList.head? = some 48 ↔ (0 < (s.extract 1 s.size).size ∧ sgetI (s.extract 1 s.size) 0 = 48) := head_sg _ 48
    rw [← size_len]
    generalize s.extract 1 s.size = R at h1 ⊢
    by_cases h2 : R.size = 0 ∨ 17 < R.size ∨ sgetI R 0 = 48
    · rw [if_pos h2, if_pos]
      rcases h2 with h2 | h2 | h2
      · exact .inl h2
      · exact .inr (.inl h2)
      · by_cases h3 : R.size = 0
        · exact .inl h3
        · exact .inr (.inr ⟨h1.2 ⟨by omega, h2⟩, .inr rfl⟩)
    · rw [if_neg h2, if_neg]
      · rfl
      · rintro (h3 | h3 | ⟨h3, _⟩)
        · exact h2 (.inl h3)
        · exact h2 (.inr (.inl h3))
        · exact h2 (.inr (.inr (h1.1 h3).2))
  · rw [if_neg (fun e => h (h0.1 e)), if_neg h]
    unfold numR
    have h1 : s.data.toList.head? = some 48 ↔ (0 < s.size ∧ sgetI s 0 = 48) := head_sg _ 48
    rw [← size_len]
    by_cases h2 : s.size = 0 ∨ 17 < s.size ∨ (sgetI s 0 = 48 ∧ 1 < s.size)
    · rw [if_pos h2, if_pos]
      rcases h2 with h2 | h2 | h2
      · exact .inl h2
      · exact .inr (.inl h2)
      · exact .inr (.inr ⟨h1.2 ⟨by omega, h2.1⟩, .inl h2.2⟩)
    · rw [if_neg h2, if_neg]
      · rfl
      · rintro (h3 | h3 | ⟨h3, h4⟩)
        · exact h2 (.inl h3)
        · exact h2 (.inr (.inl h3))
        · rcases h4 with h4 | h4
          · exact h2 (.inr (.inr ⟨(h1.1 h3).2, h4⟩))
          · cases h4
theorem valD_sg (R : ByteArray) (i : Nat) (h : i < R.size) (acc : Nat) : valD acc (R.data.toList.drop i) =
    if 48 ≤ sgetI R i ∧ sgetI R i ≤ 57 then valD (acc * 10 + ((sgetI R i).toNat - 48)) (R.data.toList.drop (i + 1)) else none := by
  rw [sg_get]
  rw [size_len] at h
  rw [List.drop_eq_getElem_cons h, List.getElem?_eq_getElem h]
  simp only [Option.getD_some, Int.toNat_natCast, valD]
  by_cases h2 : 48 ≤ R.data.toList[i].toNat ∧ R.data.toList[i].toNat ≤ 57
  · rw [if_pos h2, if_pos (by omega)]
  · rw [if_neg h2, if_neg (by omega)]
theorem valD_end (R : ByteArray) (i : Nat) (h : R.size ≤ i) (acc : Nat) : valD acc (R.data.toList.drop i) = some acc := by
  rw [List.drop_eq_nil_of_le (by rw [← size_len]; exact h)]; rfl
theorem step_wrap {acc : Nat} {x : Int} (h1 : 48 ≤ x) (h2 : x ≤ 57) (ha : acc < 100000000000000000) :
    IntKind.i64.wrap (IntKind.i64.wrap ((acc : Int) * 10) + IntKind.i64.wrap (IntKind.u8.wrap (x - 48))) = ((acc * 10 + (x.toNat - 48) : Nat) : Int) := by
  have e1 : IntKind.u8.wrap (x - 48) = x - 48 := by rw [IntKind.wrap_u8]; omega
  have e2 : IntKind.i64.wrap (x - 48) = x - 48 := by rw [IntKind.wrap_i64]; omega
  have e3 : IntKind.i64.wrap ((acc : Int) * 10) = (acc : Int) * 10 := by rw [IntKind.wrap_i64]; omega
  rw [e1, e2, e3, IntKind.wrap_i64]
  omega
theorem c_l10Num (s : ByteArray) (hs : s.size ≤ maxLen) : CallsV Tryz.prog 221 [strS s] [] (pureQ (numS (numOf s.data.toList))) := by
  refine pure_walk hTb Tryz.func221 rfl rfl Tryz.ntmps221 (by simp) ?_
  (conv => whnf); repeat' (first
    | (refine And.intro ?_ ?_ <;> ((try intro h) <;> (try simp only [Bool.not_true, Bool.not_false, decide_eq_true_eq, decide_eq_false_iff_not, Int.not_lt, Int.not_le, gt_iff_lt, ge_iff_le] at h) <;> first | exact absurd h Bool.false_ne_true | exact absurd h.symm Bool.false_ne_true | conv => whnf))
    | (refine VL.drawS hTb hMix (by kernel_rfl) (by kernel_rfl) (by kernel_rfl) ?_; conv => whnf)
    | (refine Need.mk ?_; kernel_rfl) | (refine Need.mk ⟨rfl, ?_⟩; decide)
    | (refine VR.op hTb rfl rfl (o_slice_str (n1 := 1) (n2 := s.size) hTb rfl rfl rfl rfl (bnd_some rfl) bnd_none (by omega) (by omega)) rfl ?_; conv => whnf))
  all_goals (try simp only [Int.toNat_zero, beq_iff_eq, beq_eq_false_iff_ne, ne_eq] at *)
  all_goals first
    | (refine Need.mk ?_; omega)
    | (rw [numOf_eq]; (repeat' split) <;> first | rfl | (exfalso; simp_all; done) | (exfalso; simp_all; omega))
    | (have hN : numOf s.data.toList = (valD 0 s.data.toList).map (fun (n : Nat) => if sgetI s 0 = 45 then -(n : Int) else (n : Int)) := by
         rw [numOf_eq, if_neg (by omega), if_neg (by omega)]
         congr 1
         funext n
         rw [if_neg (by omega)]
       refine VL.loopI hTb (α := Nat × Nat) (fun x => x.1 ≤ s.size ∧ valD 0 s.data.toList = valD x.2 (s.data.toList.drop x.1) ∧ x.2 < 10 ^ x.1) (fun x => ⟨[(0, strS s), (4, .one (.g (.bool (sgetI s 0 == 45)))), (5, iS x.2), (6, iS x.1)], [], []⟩) (fun x => s.size - x.1) (0, 0) ⟨Nat.zero_le _, rfl, by decide⟩
        (wk_to [] rfl rfl rfl ⟨rfl, rfl, rfl, rfl, trivial⟩ trivial) (fun x hx => ?_)
       obtain ⟨j, acc⟩ := x
       obtain ⟨hj, he, hb⟩ := hx
       simp only at hj he hb
       have hp : 10 ^ j ≤ 10 ^ 17 := Nat.pow_le_pow_right (by decide) (by omega)
       simp only [Nat.reducePow] at hp
       ((conv => whnf); repeat' (first
    | (refine And.intro ?_ ?_ <;> ((try intro h) <;> (try simp only [Bool.not_true, Bool.not_false, decide_eq_true_eq, decide_eq_false_iff_not, Int.not_lt, Int.not_le, gt_iff_lt, ge_iff_le] at h) <;> first | exact absurd h Bool.false_ne_true | exact absurd h.symm Bool.false_ne_true | conv => whnf))
    | (refine VL.drawS hTb hMix (by kernel_rfl) (by kernel_rfl) (by kernel_rfl) ?_; conv => whnf)
    | (refine Need.mk ?_; kernel_rfl) | (refine Need.mk ⟨rfl, ?_⟩; decide)
    | ((exfalso; omega))))
       all_goals (try simp only [Int.toNat_natCast, beq_iff_eq, beq_eq_false_iff_ne, ne_eq] at *)
       all_goals first
         | (refine Need.mk ?_; omega)
         | (rw [hN, he, valD_sg _ _ (by omega), if_neg (by omega)]; done)
         | (rw [hN, he, valD_sg _ _ (by omega), if_neg (by omega)]; exact rfl)
         | (rw [hN, he, valD_end _ _ (by omega), Option.map_some, if_pos (by assumption), numS]; have e0 : IntKind.i64.wrap (0 - (acc : Int)) = -(acc : Int) := by (rw [IntKind.wrap_i64]; omega)
            rw [e0]; done)
         | (rw [hN, he, valD_end _ _ (by omega), Option.map_some, if_neg (by assumption), numS]; done)
         | (have e1 := step_wrap (acc := acc) (x := sgetI s j) (by assumption) (by assumption) (by omega)
            refine ⟨(j + 1, acc * 10 + ((sgetI s j).toNat - 48)), ⟨?_, ?_, ?_⟩, ?_, wk_to [] rfl rfl rfl ⟨rfl, rfl, congrArg (fun x => Slot.one (.g (.int .i64 x))) e1, congrArg (fun x => Slot.one (.g (.int .i64 x))) (wrap64' (by unfold maxLen; omega)), trivial⟩ trivial⟩
            · show j + 1 ≤ _; omega
            · show _ = valD (acc * 10 + ((sgetI s j).toNat - 48)) (List.drop (j + 1) _); rw [he, valD_sg _ _ (by omega), if_pos (by omega)]
            · show acc * 10 + ((sgetI s j).toNat - 48) < 10 ^ (j + 1); rw [Nat.pow_succ]; omega
            · show _ - (j + 1) < _ - j; omega))
    | (have hN : numOf s.data.toList = (valD 0 (s.extract 1 s.size).data.toList).map (fun (n : Nat) => if sgetI s 0 = 45 then -(n : Int) else (n : Int)) := by
         rw [numOf_eq, if_pos (by omega), if_neg (by omega)]
         congr 1
         funext n
         rw [if_pos (by assumption)]
       refine VL.loopI hTb (α := Nat × Nat) (fun x => x.1 ≤ (s.extract 1 s.size).size ∧ valD 0 (s.extract 1 s.size).data.toList = valD x.2 ((s.extract 1 s.size).data.toList.drop x.1) ∧ x.2 < 10 ^ x.1) (fun x => ⟨[(0, strS (s.extract 1 s.size)), (4, .one (.g (.bool (sgetI s 0 == 45)))), (5, iS x.2), (6, iS x.1)], [], []⟩) (fun x => (s.extract 1 s.size).size - x.1) (0, 0) ⟨Nat.zero_le _, rfl, by decide⟩
        (wk_to [] rfl rfl rfl ⟨rfl, rfl, rfl, rfl, trivial⟩ trivial) (fun x hx => ?_)
       obtain ⟨j, acc⟩ := x
       obtain ⟨hj, he, hb⟩ := hx
       simp only at hj he hb
       have hp : 10 ^ j ≤ 10 ^ 17 := Nat.pow_le_pow_right (by decide) (by omega)
       simp only [Nat.reducePow] at hp
       ((conv => whnf); repeat' (first
    | (refine And.intro ?_ ?_ <;> ((try intro h) <;> (try simp only [Bool.not_true, Bool.not_false, decide_eq_true_eq, decide_eq_false_iff_not, Int.not_lt, Int.not_le, gt_iff_lt, ge_iff_le] at h) <;> first | exact absurd h Bool.false_ne_true | exact absurd h.symm Bool.false_ne_true | conv => whnf))
    | (refine VL.drawS hTb hMix (by kernel_rfl) (by kernel_rfl) (by kernel_rfl) ?_; conv => whnf)
    | (refine Need.mk ?_; kernel_rfl) | (refine Need.mk ⟨rfl, ?_⟩; decide)
    | ((exfalso; omega))))
       all_goals (try simp only [Int.toNat_natCast, beq_iff_eq, beq_eq_false_iff_ne, ne_eq] at *)
       all_goals first
         | (refine Need.mk ?_; omega)
         | (rw [hN, he, valD_sg _ _ (by omega), if_neg (by omega)]; done)
         | (rw [hN, he, valD_sg _ _ (by omega), if_neg (by omega)]; exact rfl)
         | (rw [hN, he, valD_end _ _ (by omega), Option.map_some, if_pos (by assumption), numS]; have e0 : IntKind.i64.wrap (0 - (acc : Int)) = -(acc : Int) := by (rw [IntKind.wrap_i64]; omega)
            rw [e0]; done)
         | (rw [hN, he, valD_end _ _ (by omega), Option.map_some, if_neg (by assumption), numS]; done)
         | (have e1 := step_wrap (acc := acc) (x := sgetI (s.extract 1 s.size) j) (by assumption) (by assumption) (by omega)
            refine ⟨(j + 1, acc * 10 + ((sgetI (s.extract 1 s.size) j).toNat - 48)), ⟨?_, ?_, ?_⟩, ?_, wk_to [] rfl rfl rfl ⟨rfl, rfl, congrArg (fun x => Slot.one (.g (.int .i64 x))) e1, congrArg (fun x => Slot.one (.g (.int .i64 x))) (wrap64' (by unfold maxLen; omega)), trivial⟩ trivial⟩
            · show j + 1 ≤ _; omega
            · show _ = valD (acc * 10 + ((sgetI (s.extract 1 s.size) j).toNat - 48)) (List.drop (j + 1) _); rw [he, valD_sg _ _ (by omega), if_pos (by omega)]
            · show acc * 10 + ((sgetI (s.extract 1 s.size) j).toNat - 48) < 10 ^ (j + 1); rw [Nat.pow_succ]; omega
            · show _ - (j + 1) < _ - j; omega))
end Go.Vl

namespace Go.Vl
open Go Go.RowKit Go.Proofs
set_option maxRecDepth 100000
set_option linter.unusedSimpArgs false
set_option linter.unusedVariables false
set_option linter.unnecessarySimpa false

theorem valD_snoc : ∀ (l : List UInt8) (acc : Nat) (c : UInt8), valD acc (l ++ [c]) = (valD acc l).bind fun m => if 48 ≤ c.toNat ∧ c.toNat ≤ 57 then some (m * 10 + (c.toNat - 48)) else none
  | [], acc, c => by simp [valD]
  | a :: l, acc, c => by
    simp only [List.cons_append, valD]
    split
    · exact valD_snoc l _ c
    · rfl
theorem valD_le : ∀ {l : List UInt8} {acc m : Nat}, valD acc l = some m → acc ≤ m
  | [], acc, m, h => by simp [valD] at h; omega
  | a :: l, acc, m, h => by
    simp only [valD] at h
    split at h
    · have := valD_le h; omega
    · cases h
theorem valD_pos {l : List UInt8} {m : Nat} (hn : l ≠ []) (h0 : l.head? ≠ some 48) (h : valD 0 l = some m) : 1 ≤ m := by
  cases l with
  | nil => exact absurd rfl hn
  | cons a l =>
    simp only [valD] at h
    split at h
    · rename_i h2
      have h3 := valD_le h
      have : a.toNat ≠ 48 := fun e => h0 (by simp; exact UInt8.toNat_inj.1 e)
      omega
    · cases h
theorem digit_back {c : UInt8} (h1 : 48 ≤ c.toNat) : UInt8.ofNat (48 + (c.toNat - 48)) = c := by
  rw [show 48 + (c.toNat - 48) = c.toNat by omega]; simp
theorem dec_of_val : ∀ (k : Nat) (l : List UInt8) (m : Nat), l.length = k → l ≠ [] → (l.head? = some 48 → l.length = 1) → valD 0 l = some m → Lib.decDigits m = l
  | 0, l, m, hk, hn, _, _ => absurd (List.eq_nil_of_length_eq_zero hk) hn
  | k + 1, l, m, hk, hn, hz, h => by
    obtain ⟨l', c, rfl⟩ : ∃ l' c, l = l' ++ [c] := ⟨l.dropLast, l.getLast hn, (List.dropLast_concat_getLast hn).symm⟩
    rw [valD_snoc] at h
    obtain ⟨m', h1, h2⟩ := Option.bind_eq_some_iff.1 h
    split at h2
    · rename_i h3
      cases h2
      by_cases hl : l' = []
      · subst hl
        simp [valD] at h1
        subst h1
        rw [Lib.decDigits_one (by omega)]
        simp only [Nat.zero_mul, Nat.zero_add, List.nil_append]
        rw [digit_back h3.1]
      · have hh : (l' ++ [c]).head? = l'.head? := by cases l' with | nil => exact absurd rfl hl | cons => rfl
        have hlen : 1 ≤ l'.length := by cases l' with | nil => exact absurd rfl hl | cons => simp
        have hz' : l'.head? ≠ some 48 := fun e => by
          have := hz (hh.trans e)
          rw [List.length_append, List.length_singleton] at this; omega
        have hp := valD_pos hl hz' h1
        have ih := dec_of_val k l' m' (by simp at hk; omega) hl (fun e => absurd e hz') h1
        rw [Lib.decDigits, dif_neg (by omega), show (m' * 10 + (c.toNat - 48)) / 10 = m' by omega, ih, show (m' * 10 + (c.toNat - 48)) % 10 = c.toNat - 48 by omega, digit_back h3.1]
    · cases h2
theorem itoa_of_num {l : List UInt8} {n : Int} (h : numOf l = some n) : Lib.itoa n = l := by
  unfold numOf at h
  split at h
  · rename_i h0
    unfold numR at h
    split at h
    · cases h
    · rename_i h1
      obtain ⟨m, h2, h3⟩ := Option.map_eq_some_iff.1 h
      have hn : l.tail ≠ [] := fun e => h1 (.inl (by rw [e]; rfl))
      have hz : l.tail.head? ≠ some 48 := fun e => h1 (.inr (.inr ⟨e, .inr rfl⟩))
      have hp := valD_pos hn hz h2
      have hd := dec_of_val _ _ m rfl hn (fun e => absurd e hz) h2
      rw [if_pos rfl] at h3
      subst h3
      rw [Lib.itoa_neg m hp, hd]
      cases l with
      | nil => cases h0
      | cons a l => simp at h0; subst h0; rfl
  · unfold numR at h
    split at h
    · cases h
    · rename_i h0 h1
      obtain ⟨m, h2, h3⟩ := Option.map_eq_some_iff.1 h
      have hn : l ≠ [] := fun e => h1 (.inl (by rw [e]; rfl))
      have hd := dec_of_val _ _ m rfl hn (fun e => by
        have : ¬ 1 < l.length := fun h4 => h1 (.inr (.inr ⟨e, .inl h4⟩))
        have : l.length ≠ 0 := fun h4 => hn (List.eq_nil_of_length_eq_zero h4)
        omega) h2
      simp at h3
      subst h3
      rw [Lib.itoa_nonneg, hd]
theorem num_small : ∀ i : Fin 1999, numOf (Lib.itoa ((i.val : Int) - 999)) = some ((i.val : Int) - 999) ∧ Lib.atoiAll (Lib.itoa ((i.val : Int) - 999)) = .ok ((i.val : Int) - 999) := by decide +kernel
theorem num_of_itoa {n : Int} (h0 : -999 ≤ n) (h1 : n ≤ 999) : numOf (Lib.itoa n) = some n ∧ Lib.atoiAll (Lib.itoa n) = .ok n := by
  have h := num_small ⟨(n + 999).toNat, by omega⟩
  rw [show (((n + 999).toNat : Nat) : Int) - 999 = n by omega] at h
  exact h
end Go.Vl

namespace Go.Vl
open Go Go.RowKit Go.Proofs
set_option maxRecDepth 100000
set_option linter.unusedSimpArgs false
set_option linter.unusedVariables false
set_option linter.unnecessarySimpa false
set_option maxHeartbeats 800000

def numV (t : ByteArray) : Val := match numOf t.data.toList with
  | some n => if -999 ≤ n ∧ n ≤ 999 then ⟨1, n, ⟨#[]⟩⟩ else ⟨0, 0, ⟨#[]⟩⟩
  | none => ⟨0, 0, ⟨#[]⟩⟩
theorem numV_yes {t : ByteArray} {n : Int} (h : -999 ≤ n ∧ n ≤ 999) (e : Lib.itoa n = t.data.toList) : numV t = ⟨1, n, ⟨#[]⟩⟩ := by
  unfold numV; rw [← e, (num_of_itoa h.1 h.2).1]; simp only [if_pos h]
theorem numV_no {t : ByteArray} (h : ∀ n, -999 ≤ n → n ≤ 999 → Lib.atoiAll t.data.toList = .ok n → Lib.itoa n ≠ t.data.toList) : numV t = ⟨0, 0, ⟨#[]⟩⟩ := by
  unfold numV
  cases e : numOf t.data.toList with
  | none => rfl
  | some n =>
    simp only
    split
    · rename_i h1
      have e1 := itoa_of_num e
      have e2 := (num_of_itoa h1.1 h1.2).2
      rw [e1] at e2
      exact absurd e1 (h n h1.1 h1.2 e2)
    · rfl
theorem valOk_n (v : Int) : valOk ⟨1, v, ⟨#[]⟩⟩ = (decide (-999 ≤ v) && decide (v ≤ 999)) := by
  simp [valOk, emptyList]
theorem c_numVal (t : ByteArray) (ht : t.size ≤ 281474976710656) : CallsV Tryz.prog 210 [strS t] [] (pureQ (.agg (encVal (numV t)))) := by
  have c1 := c_Atoi t ht
  unfold atoiS at c1
  rcases hat : Lib.atoiAll t.data.toList with v | _ | _
  · rw [hat] at c1
    simp only at c1
    have hv := Lib.atoiAll_bounds hat
    have c2 := c_implValOk ⟨1, v, ⟨#[]⟩⟩ (show (⟨#[]⟩ : ByteArray).size ≤ maxLen by decide)
    rw [valOk_n] at c2
    have c3 := c_Itoa v (by omega) (by omega)
    refine pure_walk hTb Tryz.func210 rfl rfl Tryz.ntmps210 (by simp) ?_
    (conv => whnf); repeat' (first
    | (refine And.intro ?_ ?_ <;> ((try intro h) <;> (try simp only [Bool.not_true, Bool.not_false, decide_eq_true_eq, decide_eq_false_iff_not, Int.not_lt, Int.not_le, gt_iff_lt, ge_iff_le] at h) <;> first | exact absurd h Bool.false_ne_true | exact absurd h.symm Bool.false_ne_true | conv => whnf))
    | (refine VL.drawS hTb hMix (by kernel_rfl) (by kernel_rfl) (by kernel_rfl) ?_; conv => whnf)
    | (refine Need.mk ?_; kernel_rfl) | (refine Need.mk ⟨rfl, ?_⟩; decide)
    | (refine VR.pure hTb rfl rfl (o_purN (c1) rfl rfl rfl ⟨rfl, rfl, rfl, rfl⟩ rfl) ?_; conv => whnf)
    | (refine DT.pure hTb rfl (o_purN (c1) rfl rfl rfl ⟨rfl, rfl, rfl, rfl⟩ rfl) ?_; conv => whnf)
    | (refine VR.op hTb rfl rfl (o_noerr rfl (by kernel_rfl) rfl rfl (.inr ⟨rfl, rfl⟩)) rfl ?_; conv => whnf)
    | (refine VR.pure hTb rfl rfl (o_purN (c2) rfl rfl rfl ⟨rfl, rfl, rfl, rfl⟩ rfl) ?_; conv => whnf)
    | (refine DT.pure hTb rfl (o_purN (c2) rfl rfl rfl ⟨rfl, rfl, rfl, rfl⟩ rfl) ?_; conv => whnf)
    | (refine VR.pure hTb rfl rfl (o_purN (c3) rfl rfl rfl ⟨rfl, rfl, rfl, rfl⟩ rfl) ?_; conv => whnf)
    | (refine DT.pure hTb rfl (o_purN (c3) rfl rfl rfl ⟨rfl, rfl, rfl, rfl⟩ rfl) ?_; conv => whnf))
    all_goals simp only [ByteArray.toList_eq, bl] at *
    · rw [numV_no fun n _ _ e e2 => by rw [hat] at e; cases e; simp_all]; rfl
    · rw [numV_yes (n := v) (by simp_all) (by simp_all)]; rfl
    · rw [numV_no fun n h0 h1 e e2 => by rw [hat] at e; cases e; simp_all]; rfl
  all_goals
    rw [hat] at c1
    simp only at c1
    rw [numV_no (fun n _ _ e => by rw [hat] at e; cases e)]
    refine pure_walk hTb Tryz.func210 rfl rfl Tryz.ntmps210 (by simp) ?_
    (conv => whnf); repeat' (first
    | (refine And.intro ?_ ?_ <;> ((try intro h) <;> (try simp only [Bool.not_true, Bool.not_false, decide_eq_true_eq, decide_eq_false_iff_not, Int.not_lt, Int.not_le, gt_iff_lt, ge_iff_le] at h) <;> first | exact absurd h Bool.false_ne_true | exact absurd h.symm Bool.false_ne_true | conv => whnf))
    | (refine VL.drawS hTb hMix (by kernel_rfl) (by kernel_rfl) (by kernel_rfl) ?_; conv => whnf)
    | (refine Need.mk ?_; kernel_rfl) | (refine Need.mk ⟨rfl, ?_⟩; decide)
    | (refine VR.pure hTb rfl rfl (o_purN (c1) rfl rfl rfl ⟨rfl, rfl, rfl, rfl⟩ rfl) ?_; conv => whnf)
    | (refine DT.pure hTb rfl (o_purN (c1) rfl rfl rfl ⟨rfl, rfl, rfl, rfl⟩ rfl) ?_; conv => whnf)
    | (refine VR.op hTb rfl rfl (o_err rfl (by kernel_rfl) rfl rfl (.inr ⟨rfl, rfl⟩)) rfl ?_; conv => whnf))
    all_goals rfl
end Go.Vl

namespace Go.Vl
open Go Go.RowKit Go.Proofs
set_option maxRecDepth 100000
set_option linter.unusedSimpArgs false
set_option linter.unusedVariables false
set_option linter.unnecessarySimpa false
set_option maxHeartbeats 800000

def valAs (v : Val) (kd : Int) : Val := if valOk v = true ∧ (kd = 1 ∨ kd = 2) ∧ v.k ≠ 0 then (if v.k = kd then v else if kd = 2 then ⟨2, 0, bl (Lib.itoa v.n)⟩ else numV v.t) else ⟨0, 0, ⟨#[]⟩⟩
theorem c_implValAs (k n : Int) (t : ByteArray) (kd : Int) (hv : t.size ≤ 281474976710656) : CallsV Tryz.prog 191 [.agg (encVal ⟨k, n, t⟩), iS kd] [] (pureQ (.agg (encVal (valAs ⟨k, n, t⟩ kd)))) := by
  have c1 := c_implValOk ⟨k, n, t⟩ (show t.size ≤ maxLen by unfold maxLen; omega)
  obtain ⟨b, hb⟩ : ∃ b, valOk ⟨k, n, t⟩ = b := ⟨_, rfl⟩
  rw [hb] at c1
  have hr : b = true → -999 ≤ n ∧ n ≤ 999 := fun e => by
    have h := hb.trans e
    unfold valOk at h
    simp only at h
    split at h
    · simp at h; omega
    · split at h
      · simp at h; omega
      · split at h
        · simp at h; omega
        · cases h
  have c2 : b = true → CallsV Tryz.prog 209 [iS n] [] (pureQ (strS (bl (Lib.itoa n)))) := fun e => by
    have := hr e
    exact c_Itoa n (by omega) (by omega)
  have c3 := c_numVal t hv
  obtain ⟨⟨a1, a2, a3⟩, ha⟩ : ∃ x, numV t = x := ⟨_, rfl⟩
  rw [ha] at c3
  refine pure_walk hTb Tryz.func191 rfl rfl Tryz.ntmps191 (by simp) ?_
  cases b <;> (conv => whnf); repeat' (first
    | (refine And.intro ?_ ?_ <;> ((try intro h) <;> (try simp only [Bool.not_true, Bool.not_false, decide_eq_true_eq, decide_eq_false_iff_not, Int.not_lt, Int.not_le, gt_iff_lt, ge_iff_le] at h) <;> first | exact absurd h Bool.false_ne_true | exact absurd h.symm Bool.false_ne_true | conv => whnf))
    | (refine VL.drawS hTb hMix (by kernel_rfl) (by kernel_rfl) (by kernel_rfl) ?_; conv => whnf)
    | (refine Need.mk ?_; kernel_rfl) | (refine Need.mk ⟨rfl, ?_⟩; decide)
    | (refine VR.pure hTb rfl rfl (o_purN (c1) rfl rfl rfl ⟨rfl, rfl, rfl, rfl⟩ rfl) ?_; conv => whnf)
    | (refine DT.pure hTb rfl (o_purN (c1) rfl rfl rfl ⟨rfl, rfl, rfl, rfl⟩ rfl) ?_; conv => whnf)
    | (refine VR.pure hTb rfl rfl (o_purN (c2 rfl) rfl rfl rfl ⟨rfl, rfl, rfl, rfl⟩ rfl) ?_; conv => whnf)
    | (refine DT.pure hTb rfl (o_purN (c2 rfl) rfl rfl rfl ⟨rfl, rfl, rfl, rfl⟩ rfl) ?_; conv => whnf)
    | (refine VR.pure hTb rfl rfl (o_purN (c3) rfl rfl rfl ⟨rfl, rfl, rfl, rfl⟩ rfl) ?_; conv => whnf)
    | (refine DT.pure hTb rfl (o_purN (c3) rfl rfl rfl ⟨rfl, rfl, rfl, rfl⟩ rfl) ?_; conv => whnf)
    | (refine VR.pure hTb rfl rfl (o_purN (c_in _ _ _) rfl rfl rfl ⟨rfl, rfl, rfl, rfl⟩ rfl) ?_; conv => whnf)
    | (refine DT.pure hTb rfl (o_purN (c_in _ _ _) rfl rfl rfl ⟨rfl, rfl, rfl, rfl⟩ rfl) ?_; conv => whnf))
  all_goals (try simp only [Bool.not_eq_true', Bool.not_eq_false', Bool.and_eq_true, Bool.and_eq_false_iff, decide_eq_true_eq, decide_eq_false_iff_not, beq_iff_eq, beq_eq_false_iff_ne, ne_eq] at *)
  all_goals
    show _ = Slot.agg (encVal (if valOk ⟨k, n, t⟩ = true ∧ (kd = 1 ∨ kd = 2) ∧ k ≠ 0 then (if k = kd then ⟨k, n, t⟩ else if kd = 2 then ⟨2, 0, bl (Lib.itoa n)⟩ else numV t) else ⟨0, 0, ⟨#[]⟩⟩))
    (repeat' split) <;> first
      | rfl
      | (exfalso; simp_all; done)
      | (exfalso; omega)
      | (exfalso; simp_all; omega)
      | (rw [ha]; rfl)
theorem numS_eq (o : Option Int) : ∃ x b, numS o = .tup [(false, [.g (.int .i64 x)]), (false, [.g (.bool b)])] ∧ (b = true → o = some x) ∧ (b = false → o = none) := by
  cases o with
  | none => exact ⟨0, false, rfl, (fun e => by cases e), fun _ => rfl⟩
  | some x => exact ⟨x, true, rfl, fun _ => rfl, fun e => by cases e⟩
theorem c_specValAs (k n : Int) (t : ByteArray) (kd : Int) (hv : t.size ≤ maxLen) : CallsV Tryz.prog 206 [.agg (encVal ⟨k, n, t⟩), iS kd] [] (pureQ (.agg (encVal (valAs ⟨k, n, t⟩ kd)))) := by
  have c1 := c_specValOk ⟨k, n, t⟩ hv
  obtain ⟨b, hb⟩ : ∃ b, valOk ⟨k, n, t⟩ = b := ⟨_, rfl⟩
  rw [hb] at c1
  have hr : b = true → -999 ≤ n ∧ n ≤ 999 := fun e => by
    have h := hb.trans e
    unfold valOk at h
    simp only at h
    split at h
    · simp at h; omega
    · split at h
      · simp at h; omega
      · split at h
        · simp at h; omega
        · cases h
  have c2 : b = true → CallsV Tryz.prog 222 [iS n] [] (pureQ (strS (bl (Lib.itoa n)))) := fun e => by
    have := hr e
    exact c_l10Dec n (by omega) (by omega)
  have c3 := c_l10Num t hv
  obtain ⟨x, y, h1, h2, h3⟩ := numS_eq (numOf t.data.toList)
  rw [h1] at c3
  refine pure_walk hTb Tryz.func206 rfl rfl Tryz.ntmps206 (by simp) ?_
  cases b <;> cases y <;> (conv => whnf); repeat' (first
    | (refine And.intro ?_ ?_ <;> ((try intro h) <;> (try simp only [Bool.not_true, Bool.not_false, decide_eq_true_eq, decide_eq_false_iff_not, Int.not_lt, Int.not_le, gt_iff_lt, ge_iff_le] at h) <;> first | exact absurd h Bool.false_ne_true | exact absurd h.symm Bool.false_ne_true | conv => whnf))
    | (refine VL.drawS hTb hMix (by kernel_rfl) (by kernel_rfl) (by kernel_rfl) ?_; conv => whnf)
    | (refine Need.mk ?_; kernel_rfl) | (refine Need.mk ⟨rfl, ?_⟩; decide)
    | (refine VR.pure hTb rfl rfl (o_purN (c1) rfl rfl rfl ⟨rfl, rfl, rfl, rfl⟩ rfl) ?_; conv => whnf)
    | (refine DT.pure hTb rfl (o_purN (c1) rfl rfl rfl ⟨rfl, rfl, rfl, rfl⟩ rfl) ?_; conv => whnf)
    | (refine VR.pure hTb rfl rfl (o_purN (c2 rfl) rfl rfl rfl ⟨rfl, rfl, rfl, rfl⟩ rfl) ?_; conv => whnf)
    | (refine DT.pure hTb rfl (o_purN (c2 rfl) rfl rfl rfl ⟨rfl, rfl, rfl, rfl⟩ rfl) ?_; conv => whnf)
    | (refine VR.pure hTb rfl rfl (o_purN (c3) rfl rfl rfl ⟨rfl, rfl, rfl, rfl⟩ rfl) ?_; conv => whnf)
    | (refine DT.pure hTb rfl (o_purN (c3) rfl rfl rfl ⟨rfl, rfl, rfl, rfl⟩ rfl) ?_; conv => whnf)
    | (refine VR.pure hTb rfl rfl (o_purN (c_l1Num _) rfl rfl rfl ⟨rfl, rfl, rfl, rfl⟩ rfl) ?_; conv => whnf)
    | (refine DT.pure hTb rfl (o_purN (c_l1Num _) rfl rfl rfl ⟨rfl, rfl, rfl, rfl⟩ rfl) ?_; conv => whnf))
  all_goals simp only [beq_iff_eq, beq_eq_false_iff_ne, ne_eq, Bool.and_eq_true, decide_eq_true_eq, Bool.and_eq_false_iff, decide_eq_false_iff_not] at *
  all_goals
    show _ = Slot.agg (encVal (if valOk ⟨k, n, t⟩ = true ∧ (kd = 1 ∨ kd = 2) ∧ k ≠ 0 then (if k = kd then ⟨k, n, t⟩ else if kd = 2 then ⟨2, 0, bl (Lib.itoa n)⟩ else numV t) else ⟨0, 0, ⟨#[]⟩⟩))
    (repeat' split) <;> first
      | rfl
      | (exfalso; simp_all; done)
      | (exfalso; omega)
      | (exfalso; simp_all; omega)
      | (unfold numV; simp_all; done)
      | (simp_all [encVal]; done)
      | (unfold numV; simp_all; split <;> first | rfl | (exfalso; omega))
      | (unfold numV; simp_all; rfl)
end Go.Vl

namespace Go.Vl
open Go Go.RowKit Go.Proofs
set_option maxRecDepth 100000
set_option linter.unusedSimpArgs false
set_option linter.unusedVariables false
set_option linter.unnecessarySimpa false
set_option maxHeartbeats 2000000

def kCol (k : Int) : Col := ⟨⟨#[]⟩, k, false, false, ⟨0, 0, ⟨#[]⟩⟩⟩
def namedB (c : Change) : Bool :=
  if c.kind = 1 then (⟨#[]⟩ : ByteArray).toList == c.name.toList && (⟨#[]⟩ : ByteArray).toList == c.new.toList
  else if c.kind = 2 then (⟨#[]⟩ : ByteArray).toList == c.new.toList && q_Col (kCol 0) c.col
  else if c.kind = 3 then q_Col (kCol 0) c.col
  else if c.kind = 4 then (⟨#[]⟩ : ByteArray).toList == c.new.toList && q_Col (kCol c.col.kind) c.col
  else false
theorem c_named (c : Change) : CallsV Tryz.prog 189 [.agg (encChange c)] [] (pureQ (bS (namedB c))) := by
  obtain ⟨kd, nm, nw, ⟨cn, ck, c1, c2, ⟨d1, d2, d3⟩⟩⟩ := c
  refine pure_walk hTb Tryz.func189 rfl rfl Tryz.ntmps189 (by simp) ?_
  (conv => whnf); repeat' (first
    | (refine And.intro ?_ ?_ <;> ((try intro h) <;> (try simp only [Bool.not_true, Bool.not_false, decide_eq_true_eq, decide_eq_false_iff_not, Int.not_lt, Int.not_le, gt_iff_lt, ge_iff_le] at h) <;> first | exact absurd h Bool.false_ne_true | exact absurd h.symm Bool.false_ne_true | conv => whnf))
    | (refine VL.drawS hTb hMix (by kernel_rfl) (by kernel_rfl) (by kernel_rfl) ?_; conv => whnf)
    | (refine Need.mk ?_; kernel_rfl) | (refine Need.mk ⟨rfl, ?_⟩; decide)
    | (fail))
  all_goals simp only [bS, namedB, beq_iff_eq, beq_eq_false_iff_ne, ne_eq] at *
  all_goals first
    | (rw [if_pos (by assumption)]; simp; done)
    | (rw [if_neg (by assumption), if_pos (by assumption)]; simp [q_Col, q_Val, kCol]; done)
    | (rw [if_neg (by assumption), if_neg (by assumption), if_pos (by assumption)]; simp [q_Col, q_Val, kCol]; done)
    | (rw [if_neg (by assumption), if_neg (by assumption), if_neg (by assumption), if_pos (by assumption)]; simp [q_Col, q_Val, kCol]; done)
    | (rw [if_neg (by assumption), if_neg (by assumption), if_neg (by assumption), if_neg (by assumption)]; done)
theorem c_l2Rest (c : Change) : CallsV Tryz.prog 204 [.agg (encChange c)] [] (pureQ (.agg (encCol (kCol (if c.kind = 4 then c.col.kind else 0))))) := by
  obtain ⟨kd, nm, nw, ⟨cn, ck, c1, c2, ⟨d1, d2, d3⟩⟩⟩ := c
  refine pure_walk hTb Tryz.func204 rfl rfl Tryz.ntmps204 (by simp) ?_
  (conv => whnf); repeat' (first
    | (refine And.intro ?_ ?_ <;> ((try intro h) <;> (try simp only [Bool.not_true, Bool.not_false, decide_eq_true_eq, decide_eq_false_iff_not, Int.not_lt, Int.not_le, gt_iff_lt, ge_iff_le] at h) <;> first | exact absurd h Bool.false_ne_true | exact absurd h.symm Bool.false_ne_true | conv => whnf))
    | (refine VL.drawS hTb hMix (by kernel_rfl) (by kernel_rfl) (by kernel_rfl) ?_; conv => whnf)
    | (refine Need.mk ?_; kernel_rfl) | (refine Need.mk ⟨rfl, ?_⟩; decide)
    | (fail))
  all_goals simp only [beq_iff_eq, beq_eq_false_iff_ne, ne_eq] at *
  · rw [if_pos (by assumption)]; rfl
  · rw [if_neg (by assumption)]; rfl
theorem c_l2Cut (l : List Col) (k : Nat) (hk : k < l.length) (hl : l.length ≤ 2000000) : CallsV Tryz.prog 205 [colsI l, iS k] [] (funQ (.one (.own 0 0 (l.length - 1))) [] [.arr 39 7 ((l.eraseIdx k).map encCol)]) := by
  have e1 : (l.take k).length = k := by simp; omega
  have e2 : (l.drop (k + 1)).length = l.length - (k + 1) := by simp
  have ew : IntKind.i64.wrap ((k : Int) + 1) = ((k + 1 : Nat) : Int) := by rw [IntKind.wrap_i64]; omega
  refine funF_walk hTb Tryz.func205 rfl rfl Tryz.ntmps205 (by simp) (by simp) ?_
  (conv => whnf); repeat' (first
    | (refine And.intro ?_ ?_ <;> ((try intro h) <;> (try simp only [Bool.not_true, Bool.not_false, decide_eq_true_eq, decide_eq_false_iff_not, Int.not_lt, Int.not_le, gt_iff_lt, ge_iff_le] at h) <;> first | exact absurd h Bool.false_ne_true | exact absurd h.symm Bool.false_ne_true | conv => whnf))
    | (refine VL.drawS hTb hMix (by kernel_rfl) (by kernel_rfl) (by kernel_rfl) ?_; conv => whnf)
    | (refine Need.mk ?_; kernel_rfl) | (refine Need.mk ⟨rfl, ?_⟩; decide)
    | (refine DT.op hTb rfl (o_slice_imm (n1 := 0) (n2 := k) (rows' := (l.take k).map encCol) hTb rfl rfl rfl rfl rfl rfl bnd_none (bnd_some rfl) (Nat.zero_le _) (by simp; omega) (by rw [List.drop_zero, Nat.sub_zero, List.map_take])) rfl ?_; conv => whnf)
    | (refine DT.op hTb rfl (o_slice_imm (n1 := k + 1) (n2 := (l.map encCol).length) (rows' := (l.drop (k + 1)).map encCol) hTb rfl rfl rfl rfl rfl rfl (bnd_wr rfl ew) bnd_none (by simp; omega) (by simp) (by rw [← List.map_drop]; exact List.take_of_length_le (by simp))) rfl ?_; conv => whnf)
    | (refine VR.opk hTb rfl rfl (o_app0 (f := encCol) (m := (l.take k)) (q := 109) hTb rfl rfl rfl rfl rfl rfl rfl rfl rfl rfl (by omega) (by show _ * 64 ≤ _; omega) (by unfold maxLen; omega)) ?_; conv => whnf)
    | (refine DT.opk hTb rfl (o_app0 (f := encCol) (m := (l.take k)) (q := 109) hTb rfl rfl rfl rfl rfl rfl rfl rfl rfl rfl (by omega) (by show _ * 64 ≤ _; omega) (by unfold maxLen; omega)) ?_; conv => whnf)
    | (refine DT.opk hTb rfl (o_appN (f := encCol) (l := l.take k) (m := l.drop (k + 1)) (q := 114) hTb rfl rfl rfl rfl rfl rfl rfl rfl rfl rfl rfl (by omega) (by show _ * 64 ≤ _; omega) (by unfold maxLen; omega)) ?_; conv => whnf))
  exact endW [114] rfl rfl rfl rfl rfl (LeS.of_eq (congrArg (fun n => Slot.one (.own 0 0 n)) (by rw [e1, e2]; omega))) rfl (congrArg (fun r => [Ob.arr 39 7 r]) (by rw [List.eraseIdx_eq_take_drop_succ]))
end Go.Vl

namespace Go.Vl
open Go Go.RowKit Go.Proofs
set_option maxRecDepth 100000
set_option linter.unusedSimpArgs false
set_option linter.unusedVariables false
set_option linter.unnecessarySimpa false
set_option maxHeartbeats 1600000

theorem ba_ext {a b : ByteArray} (h : a.data.toList = b.data.toList) : a = b := by
  apply ByteArray.ext; exact Array.toList_inj.1 h
-- what the program does
-- what the reference does
end Go.Vl

namespace Go.Vl
open Go Go.RowKit Go.Proofs
set_option maxRecDepth 100000
set_option linter.unusedSimpArgs false
set_option linter.unusedVariables false
set_option linter.unnecessarySimpa false
set_option maxHeartbeats 1600000

theorem tl_ext {a b : ByteArray} (h : a.toList = b.toList) : a = b := by
  rw [ByteArray.toList_eq, ByteArray.toList_eq] at h; exact ba_ext h
theorem zero_ok : valOk ⟨0, 0, ⟨#[]⟩⟩ = true := by decide +kernel
theorem valOk_nil {v : Val} (h : valOk v = true) (hk : v.k = 0) : v = ⟨0, 0, ⟨#[]⟩⟩ := by
  obtain ⟨k, n, t⟩ := v
  simp only at hk; subst hk
  unfold valOk at h
  simp only [if_true, Bool.and_eq_true, beq_iff_eq] at h
  obtain ⟨h1, h2⟩ := h
  subst h1
  rw [tl_ext (h2.trans emptyList.symm)]
theorem valOk_one {v : Val} (h : valOk v = true) (hk : v.k = 1) : v = ⟨1, v.n, ⟨#[]⟩⟩ ∧ -999 ≤ v.n ∧ v.n ≤ 999 := by
  obtain ⟨k, n, t⟩ := v
  simp only at hk; subst hk
  unfold valOk at h
  simp [Bool.and_eq_true, beq_iff_eq] at h
  obtain ⟨⟨h1, h3⟩, h2⟩ := h
  rw [tl_ext (h2.trans emptyList.symm)]
  exact ⟨rfl, h1, h3⟩
theorem num_text : ∀ i : Fin 1999, valOk ⟨2, 0, bl (Lib.itoa ((i.val : Int) - 999))⟩ = true := by decide +kernel
theorem num_text' {n : Int} (h : -999 ≤ n ∧ n ≤ 999) : valOk ⟨2, 0, bl (Lib.itoa n)⟩ = true := by
  have := num_text ⟨(n + 999).toNat, by omega⟩
  rwa [show (((n + 999).toNat : Nat) : Int) - 999 = n by omega] at this
theorem numV_cases (t : ByteArray) : (∃ n, -999 ≤ n ∧ n ≤ 999 ∧ numOf t.data.toList = some n ∧ numV t = ⟨1, n, ⟨#[]⟩⟩) ∨ numV t = ⟨0, 0, ⟨#[]⟩⟩ := by
  unfold numV
  cases e : numOf t.data.toList with
  | none => exact .inr rfl
  | some n =>
    simp only
    by_cases h : -999 ≤ n ∧ n ≤ 999
    · rw [if_pos h]; exact .inl ⟨n, h.1, h.2, rfl, rfl⟩
    · rw [if_neg h]; exact .inr rfl
theorem num1_ok {n : Int} (h : -999 ≤ n ∧ n ≤ 999) : valOk ⟨1, n, ⟨#[]⟩⟩ = true := by rw [valOk_n]; simp; omega
theorem valAs_no {v : Val} {kd : Int} (h : valOk v = false ∨ ¬ (kd = 1 ∨ kd = 2)) : valAs v kd = ⟨0, 0, ⟨#[]⟩⟩ := by
  unfold valAs
  rw [if_neg]
  rintro ⟨h1, h2, _⟩
  rcases h with h | h
  · rw [h] at h1; cases h1
  · exact h h2
theorem valAs_nil (kd : Int) : valAs ⟨0, 0, ⟨#[]⟩⟩ kd = ⟨0, 0, ⟨#[]⟩⟩ := by
  unfold valAs
  rw [if_neg]
  rintro ⟨_, _, h⟩
  exact h rfl
theorem valAs_same {v : Val} {kd : Int} (h : valOk v = true) (hk : kd = 1 ∨ kd = 2) (e : v.k = kd) : valAs v kd = v := by
  unfold valAs
  rw [if_pos ⟨h, hk, by omega⟩, if_pos e]
theorem valAs_nt {v : Val} (h : valOk v = true) (hk : v.k = 1) : valAs v 2 = ⟨2, 0, bl (Lib.itoa v.n)⟩ := by
  unfold valAs
  rw [if_pos ⟨h, .inr rfl, by omega⟩, if_neg (by omega), if_pos rfl]
theorem valAs_tn {v : Val} (h : valOk v = true) (hk : v.k = 2) : valAs v 1 = numV v.t := by
  unfold valAs
  rw [if_pos ⟨h, .inl rfl, by omega⟩, if_neg (by omega), if_neg (by omega)]
/-- All that comes about. -/
theorem valAs_cases (v : Val) (kd : Int) : valAs v kd = ⟨0, 0, ⟨#[]⟩⟩ ∨ (valOk v = true ∧ (kd = 1 ∨ kd = 2) ∧ v.k = kd ∧ valAs v kd = v) ∨
    (valOk v = true ∧ v.k = 1 ∧ kd = 2 ∧ valAs v kd = ⟨2, 0, bl (Lib.itoa v.n)⟩) ∨ (valOk v = true ∧ v.k = 2 ∧ kd = 1 ∧ ∃ n, -999 ≤ n ∧ n ≤ 999 ∧ numOf v.t.data.toList = some n ∧ valAs v kd = ⟨1, n, ⟨#[]⟩⟩) := by
  by_cases h : valOk v = true
  · by_cases hk : kd = 1 ∨ kd = 2
    · rcases valOk_kind h with e | e | e
      · left; rw [valOk_nil h e]; exact valAs_nil kd
      · rcases hk with rfl | rfl
        · exact .inr (.inl ⟨h, .inl rfl, e, valAs_same h (.inl rfl) e⟩)
        · exact .inr (.inr (.inl ⟨h, e, rfl, valAs_nt h e⟩))
      · rcases hk with rfl | rfl
        · rcases numV_cases v.t with ⟨n, h1, h2, h3, h4⟩ | h4
          · exact .inr (.inr (.inr ⟨h, e, rfl, n, h1, h2, h3, (valAs_tn h e).trans h4⟩))
          · exact .inl ((valAs_tn h e).trans h4)
        · exact .inr (.inl ⟨h, .inr rfl, e, valAs_same h (.inr rfl) e⟩)
    · exact .inl (valAs_no (.inr hk))
  · exact .inl (valAs_no (.inl (by simpa using h)))
theorem valAs_ok (v : Val) (kd : Int) : valOk (valAs v kd) = true := by
  rcases valAs_cases v kd with e | ⟨h, _, _, e⟩ | ⟨h, h1, _, e⟩ | ⟨h, h1, _, n, h2, h3, _, e⟩
  · rw [e]; exact zero_ok
  · rw [e]; exact h
  · rw [e]; exact num_text' (valOk_one h h1).2
  · rw [e]; exact num1_ok ⟨h2, h3⟩
theorem valAs_size (v : Val) (kd : Int) : (valAs v kd).t.size ≤ 4 := by
  have h := valAs_ok v kd
  rcases valOk_kind h with e | e | e
  · rw [valOk_nil h e]; decide
  · rw [(valOk_one h e).1]; show (⟨#[]⟩ : ByteArray).size ≤ 4; decide
  · exact valOk_text h e
-- what is read
end Go.Vl
