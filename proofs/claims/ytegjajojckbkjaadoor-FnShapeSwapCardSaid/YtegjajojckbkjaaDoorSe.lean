/- The plain law of numerals: what the reference reads as a number is that number's own numeral. -/
import Derived.Test.YtegjajojckbkjaaDoorSd
namespace Go.Vl
open Go Go.RowKit Go.Proofs
set_option maxRecDepth 100000
set_option linter.unusedSimpArgs false
set_option linter.unusedVariables false

theorem valD_snoc : ∀ (l : List UInt8) (acc : Nat) (c : UInt8), valD acc (l ++ [c]) = (valD acc l).bind fun m => if 48 ≤ c.toNat ∧ c.toNat ≤ 57 then some (m * 10 + (c.toNat - 48)) else none
  | [], acc, c => by simp [valD]
  | a :: l, acc, c => by
    simp only [List.cons_append, valD]
    split
    · exact valD_snoc l _ c
    · rfl
theorem valD_le : ∀ {l : List UInt8} {acc m : Nat}, valD acc l = some m → acc ≤ m
  | [], acc, m, h => by simp [valD] at h; omega
  | a :: l, acc, m, h => by
    simp only [valD] at h
    split at h
    · have := valD_le h; omega
    · cases h
theorem valD_pos {l : List UInt8} {m : Nat} (hn : l ≠ []) (h0 : l.head? ≠ some 48) (h : valD 0 l = some m) : 1 ≤ m := by
  cases l with
  | nil => exact absurd rfl hn
  | cons a l =>
    simp only [valD] at h
    split at h
    · rename_i h2
      have h3 := valD_le h
      have : a.toNat ≠ 48 := fun e => h0 (by simp; exact UInt8.toNat_inj.1 e)
      omega
    · cases h
theorem digit_back {c : UInt8} (h1 : 48 ≤ c.toNat) : UInt8.ofNat (48 + (c.toNat - 48)) = c := by
  rw [show 48 + (c.toNat - 48) = c.toNat by omega]; simp
theorem dec_of_val : ∀ (k : Nat) (l : List UInt8) (m : Nat), l.length = k → l ≠ [] → (l.head? = some 48 → l.length = 1) → valD 0 l = some m → Lib.decDigits m = l
  | 0, l, m, hk, hn, _, _ => absurd (List.eq_nil_of_length_eq_zero hk) hn
  | k + 1, l, m, hk, hn, hz, h => by
    obtain ⟨l', c, rfl⟩ : ∃ l' c, l = l' ++ [c] := ⟨l.dropLast, l.getLast hn, (List.dropLast_concat_getLast hn).symm⟩
    rw [valD_snoc] at h
    obtain ⟨m', h1, h2⟩ := Option.bind_eq_some_iff.1 h
    split at h2
    · rename_i h3
      cases h2
      by_cases hl : l' = []
      · subst hl
        simp [valD] at h1
        subst h1
        rw [Lib.decDigits_one (by omega)]
        simp only [Nat.zero_mul, Nat.zero_add, List.nil_append]
        rw [digit_back h3.1]
      · have hh : (l' ++ [c]).head? = l'.head? := by cases l' with | nil => exact absurd rfl hl | cons => rfl
        have hlen : 1 ≤ l'.length := by cases l' with | nil => exact absurd rfl hl | cons => simp
        have hz' : l'.head? ≠ some 48 := fun e => by
          have := hz (hh.trans e)
          rw [List.length_append, List.length_singleton] at this; omega
        have hp := valD_pos hl hz' h1
        have ih := dec_of_val k l' m' (by simp at hk; omega) hl (fun e => absurd e hz') h1
        rw [Lib.decDigits, dif_neg (by omega), show (m' * 10 + (c.toNat - 48)) / 10 = m' by omega, ih, show (m' * 10 + (c.toNat - 48)) % 10 = c.toNat - 48 by omega, digit_back h3.1]
    · cases h2
theorem itoa_of_num {l : List UInt8} {n : Int} (h : numOf l = some n) : Lib.itoa n = l := by
  unfold numOf at h
  split at h
  · rename_i h0
    unfold numR at h
    split at h
    · cases h
    · rename_i h1
      obtain ⟨m, h2, h3⟩ := Option.map_eq_some_iff.1 h
      have hn : l.tail ≠ [] := fun e => h1 (.inl (by rw [e]; rfl))
      have hz : l.tail.head? ≠ some 48 := fun e => h1 (.inr (.inr ⟨e, .inr rfl⟩))
      have hp := valD_pos hn hz h2
      have hd := dec_of_val _ _ m rfl hn (fun e => absurd e hz) h2
      rw [if_pos rfl] at h3
      subst h3
      rw [Lib.itoa_neg m hp, hd]
      cases l with
      | nil => cases h0
      | cons a l => simp at h0; subst h0; rfl
  · unfold numR at h
    split at h
    · cases h
    · rename_i h0 h1
      obtain ⟨m, h2, h3⟩ := Option.map_eq_some_iff.1 h
      have hn : l ≠ [] := fun e => h1 (.inl (by rw [e]; rfl))
      have hd := dec_of_val _ _ m rfl hn (fun e => by
        have : ¬ 1 < l.length := fun h4 => h1 (.inr (.inr ⟨e, .inl h4⟩))
        have : l.length ≠ 0 := fun h4 => hn (List.eq_nil_of_length_eq_zero h4)
        omega) h2
      simp at h3
      subst h3
      rw [Lib.itoa_nonneg, hd]
theorem num_small : ∀ i : Fin 1999, numOf (Lib.itoa ((i.val : Int) - 999)) = some ((i.val : Int) - 999) ∧ Lib.atoiAll (Lib.itoa ((i.val : Int) - 999)) = .ok ((i.val : Int) - 999) := by decide +kernel
theorem num_of_itoa {n : Int} (h0 : -999 ≤ n) (h1 : n ≤ 999) : numOf (Lib.itoa n) = some n ∧ Lib.atoiAll (Lib.itoa n) = .ok n := by
  have h := num_small ⟨(n + 999).toNat, by omega⟩
  rw [show (((n + 999).toNat : Nat) : Int) - 999 = n by omega] at h
  exact h
end Go.Vl
