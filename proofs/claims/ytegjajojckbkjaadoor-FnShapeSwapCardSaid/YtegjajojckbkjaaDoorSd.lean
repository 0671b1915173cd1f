/- Contracts: a text as a number, as the reference reads it. -/
import Derived.Test.YtegjajojckbkjaaDoorSc
namespace Go.Vl
open Go Go.RowKit Go.Proofs
set_option maxRecDepth 100000
set_option linter.unusedSimpArgs false
set_option linter.unusedVariables false
set_option maxHeartbeats 800000

def valD : Nat → List UInt8 → Option Nat
  | acc, [] => some acc
  | acc, c :: r => if 48 ≤ c.toNat ∧ c.toNat ≤ 57 then valD (acc * 10 + (c.toNat - 48)) r else none
def numR (neg : Bool) (l : List UInt8) : Option Int :=
  if l.length = 0 ∨ 17 < l.length ∨ (l.head? = some 48 ∧ (1 < l.length ∨ neg = true)) then none else (valD 0 l).map fun (n : Nat) => if neg then -(n : Int) else n
def numOf (l : List UInt8) : Option Int := if l.head? = some 45 then numR true l.tail else numR false l
def numS : Option Int → Slot
  | some n => .tup [(false, [.g (.int .i64 n)]), (false, [.g (.bool true)])]
  | none => .tup [(false, [.g (.int .i64 0)]), (false, [.g (.bool false)])]
theorem sg_get (s : ByteArray) (i : Nat) : sgetI s i = (((s.data.toList[i]?).getD 0).toNat : Int) := by
  unfold sgetI
  have : s[i]? = s.data.toList[i]? := by
    rw [Array.getElem?_toList]
    by_cases h : i < s.size
    · rw [getElem?_pos s i h, getElem?_pos s.data i h]; rfl
    · rw [getElem?_neg s i h, getElem?_neg s.data i h]
  rw [this]
theorem size_len (s : ByteArray) : s.size = s.data.toList.length := Array.length_toList.symm
theorem ext_tail (s : ByteArray) : (s.extract 1 s.size).data.toList = s.data.toList.tail := by
  rw [ByteArray.data_extract, Array.toList_extract, List.extract_eq_take_drop, List.take_of_length_le, List.drop_one]
  rw [List.length_drop, ← size_len]; exact Nat.le_refl _
theorem head_sg (R : ByteArray) (c : UInt8) : R.data.toList.head? = some c ↔ (0 < R.size ∧ sgetI R 0 = (c.toNat : Int)) := by
  rw [sg_get, size_len]
  cases R.data.toList with
  | nil => simp
  | cons a l =>
    simp
    constructor
    · rintro rfl; rfl
    · intro h; exact UInt8.toNat_inj.1 (by omega)
theorem numOf_eq (s : ByteArray) : numOf s.data.toList =
    if 0 < s.size ∧ sgetI s 0 = 45 then (if (s.extract 1 s.size).size = 0 ∨ 17 < (s.extract 1 s.size).size ∨ sgetI (s.extract 1 s.size) 0 = 48 then none else (valD 0 (s.extract 1 s.size).data.toList).map fun (n : Nat) => -(n : Int))
    else (if s.size = 0 ∨ 17 < s.size ∨ (sgetI s 0 = 48 ∧ 1 < s.size) then none else (valD 0 s.data.toList).map fun (n : Nat) => (n : Int)) := by
  unfold numOf
  have h0 : s.data.toList.head? = some 45 ↔ (0 < s.size ∧ sgetI s 0 = 45) := head_sg s 45
  by_cases h : 0 < s.size ∧ sgetI s 0 = 45
  · rw [if_pos (h0.2 h), if_pos h, ← ext_tail]
    unfold numR
    have h1 : (s.extract 1 s.size).data.toList.head? = some 48 ↔ (0 < (s.extract 1 s.size).size ∧ sgetI (s.extract 1 s.size) 0 = 48) := head_sg _ 48
    rw [← size_len]
    generalize s.extract 1 s.size = R at h1 ⊢
    by_cases h2 : R.size = 0 ∨ 17 < R.size ∨ sgetI R 0 = 48
    · rw [if_pos h2, if_pos]
      rcases h2 with h2 | h2 | h2
      · exact .inl h2
      · exact .inr (.inl h2)
      · by_cases h3 : R.size = 0
        · exact .inl h3
        · exact .inr (.inr ⟨h1.2 ⟨by omega, h2⟩, .inr rfl⟩)
    · rw [if_neg h2, if_neg]
      · rfl
      · rintro (h3 | h3 | ⟨h3, _⟩)
        · exact h2 (.inl h3)
        · exact h2 (.inr (.inl h3))
        · exact h2 (.inr (.inr (h1.1 h3).2))
  · rw [if_neg (fun e => h (h0.1 e)), if_neg h]
    unfold numR
    have h1 : s.data.toList.head? = some 48 ↔ (0 < s.size ∧ sgetI s 0 = 48) := head_sg _ 48
    rw [← size_len]
    by_cases h2 : s.size = 0 ∨ 17 < s.size ∨ (sgetI s 0 = 48 ∧ 1 < s.size)
    · rw [if_pos h2, if_pos]
      rcases h2 with h2 | h2 | h2
      · exact .inl h2
      · exact .inr (.inl h2)
      · exact .inr (.inr ⟨h1.2 ⟨by omega, h2.1⟩, .inl h2.2⟩)
    · rw [if_neg h2, if_neg]
      · rfl
      · rintro (h3 | h3 | ⟨h3, h4⟩)
        · exact h2 (.inl h3)
        · exact h2 (.inr (.inl h3))
        · rcases h4 with h4 | h4
          · exact h2 (.inr (.inr ⟨(h1.1 h3).2, h4⟩))
          · cases h4
theorem valD_sg (R : ByteArray) (i : Nat) (h : i < R.size) (acc : Nat) : valD acc (R.data.toList.drop i) =
    if 48 ≤ sgetI R i ∧ sgetI R i ≤ 57 then valD (acc * 10 + ((sgetI R i).toNat - 48)) (R.data.toList.drop (i + 1)) else none := by
  rw [sg_get]
  rw [size_len] at h
  rw [List.drop_eq_getElem_cons h, List.getElem?_eq_getElem h]
  simp only [Option.getD_some, Int.toNat_natCast, valD]
  by_cases h2 : 48 ≤ R.data.toList[i].toNat ∧ R.data.toList[i].toNat ≤ 57
  · rw [if_pos h2, if_pos (by omega)]
  · rw [if_neg h2, if_neg (by omega)]
theorem valD_end (R : ByteArray) (i : Nat) (h : R.size ≤ i) (acc : Nat) : valD acc (R.data.toList.drop i) = some acc := by
  rw [List.drop_eq_nil_of_le (by rw [← size_len]; exact h)]; rfl
theorem step_wrap {acc : Nat} {x : Int} (h1 : 48 ≤ x) (h2 : x ≤ 57) (ha : acc < 100000000000000000) :
    IntKind.i64.wrap (IntKind.i64.wrap ((acc : Int) * 10) + IntKind.i64.wrap (IntKind.u8.wrap (x - 48))) = ((acc * 10 + (x.toNat - 48) : Nat) : Int) := by
  have e1 : IntKind.u8.wrap (x - 48) = x - 48 := by rw [IntKind.wrap_u8]; omega
  have e2 : IntKind.i64.wrap (x - 48) = x - 48 := by rw [IntKind.wrap_i64]; omega
  have e3 : IntKind.i64.wrap ((acc : Int) * 10) = (acc : Int) * 10 := by rw [IntKind.wrap_i64]; omega
  rw [e1, e2, e3, IntKind.wrap_i64]
  omega
theorem c_l10Num (s : ByteArray) (hs : s.size ≤ maxLen) : CallsV Tryd.prog 110 [strS s] [] (pureQ (numS (numOf s.data.toList))) := by
  refine pure_walk hTb Tryd.func110 rfl rfl Tryd.ntmps110 (by simp) ?_
  (conv => whnf); repeat' (first
    | (refine And.intro ?_ ?_ <;> ((try intro h) <;> (try simp only [Bool.not_true, Bool.not_false, decide_eq_true_eq, decide_eq_false_iff_not, Int.not_lt, Int.not_le, gt_iff_lt, ge_iff_le] at h) <;> first | exact absurd h Bool.false_ne_true | exact absurd h.symm Bool.false_ne_true | conv => whnf))
    | (refine VL.drawS hTb hMix (by kernel_rfl) (by kernel_rfl) (by kernel_rfl) ?_; conv => whnf)
    | (refine Need.mk ?_; kernel_rfl) | (refine Need.mk ⟨rfl, ?_⟩; decide)
    | (refine VR.op hTb rfl rfl (o_slice_str (n1 := 1) (n2 := s.size) hTb rfl rfl rfl rfl (bnd_some rfl) bnd_none (by omega) (by omega)) rfl ?_; conv => whnf))
  all_goals (try simp only [Int.toNat_zero, beq_iff_eq, beq_eq_false_iff_ne, ne_eq] at *)
  all_goals first
    | (refine Need.mk ?_; omega)
    | (rw [numOf_eq]; (repeat' split) <;> first | rfl | (exfalso; simp_all; done) | (exfalso; simp_all; omega))
    | (have hN : numOf s.data.toList = (valD 0 s.data.toList).map (fun (n : Nat) => if sgetI s 0 = 45 then -(n : Int) else (n : Int)) := by
         rw [numOf_eq, if_neg (by omega), if_neg (by omega)]
         congr 1
         funext n
         rw [if_neg (by omega)]
       refine VL.loopI hTb (α := Nat × Nat) (fun x => x.1 ≤ s.size ∧ valD 0 s.data.toList = valD x.2 (s.data.toList.drop x.1) ∧ x.2 < 10 ^ x.1) (fun x => ⟨[(0, strS s), (4, .one (.g (.bool (sgetI s 0 == 45)))), (5, iS x.2), (6, iS x.1)], [], []⟩) (fun x => s.size - x.1) (0, 0) ⟨Nat.zero_le _, rfl, by decide⟩
        (wk_to [] rfl rfl rfl ⟨rfl, rfl, rfl, rfl, trivial⟩ trivial) (fun x hx => ?_)
       obtain ⟨j, acc⟩ := x
       obtain ⟨hj, he, hb⟩ := hx
       simp only at hj he hb
       have hp : 10 ^ j ≤ 10 ^ 17 := Nat.pow_le_pow_right (by decide) (by omega)
       simp only [Nat.reducePow] at hp
       ((conv => whnf); repeat' (first
    | (refine And.intro ?_ ?_ <;> ((try intro h) <;> (try simp only [Bool.not_true, Bool.not_false, decide_eq_true_eq, decide_eq_false_iff_not, Int.not_lt, Int.not_le, gt_iff_lt, ge_iff_le] at h) <;> first | exact absurd h Bool.false_ne_true | exact absurd h.symm Bool.false_ne_true | conv => whnf))
    | (refine VL.drawS hTb hMix (by kernel_rfl) (by kernel_rfl) (by kernel_rfl) ?_; conv => whnf)
    | (refine Need.mk ?_; kernel_rfl) | (refine Need.mk ⟨rfl, ?_⟩; decide)
    | ((exfalso; omega))))
       all_goals (try simp only [Int.toNat_natCast, beq_iff_eq, beq_eq_false_iff_ne, ne_eq] at *)
       all_goals first
         | (refine Need.mk ?_; omega)
         | (rw [hN, he, valD_sg _ _ (by omega), if_neg (by omega)]; done)
         | (rw [hN, he, valD_sg _ _ (by omega), if_neg (by omega)]; exact rfl)
         | (rw [hN, he, valD_end _ _ (by omega), Option.map_some, if_pos (by assumption), numS]; have e0 : IntKind.i64.wrap (0 - (acc : Int)) = -(acc : Int) := by (rw [IntKind.wrap_i64]; omega)
            rw [e0]; done)
         | (rw [hN, he, valD_end _ _ (by omega), Option.map_some, if_neg (by assumption), numS]; done)
         | (have e1 := step_wrap (acc := acc) (x := sgetI s j) (by assumption) (by assumption) (by omega)
            refine ⟨(j + 1, acc * 10 + ((sgetI s j).toNat - 48)), ⟨?_, ?_, ?_⟩, ?_, wk_to [] rfl rfl rfl ⟨rfl, rfl, congrArg (fun x => Slot.one (.g (.int .i64 x))) e1, congrArg (fun x => Slot.one (.g (.int .i64 x))) (wrap64' (by unfold maxLen; omega)), trivial⟩ trivial⟩
            · show j + 1 ≤ _; omega
            · show _ = valD (acc * 10 + ((sgetI s j).toNat - 48)) (List.drop (j + 1) _); rw [he, valD_sg _ _ (by omega), if_pos (by omega)]
            · show acc * 10 + ((sgetI s j).toNat - 48) < 10 ^ (j + 1); rw [Nat.pow_succ]; omega
            · show _ - (j + 1) < _ - j; omega))
    | (have hN : numOf s.data.toList = (valD 0 (s.extract 1 s.size).data.toList).map (fun (n : Nat) => if sgetI s 0 = 45 then -(n : Int) else (n : Int)) := by
         rw [numOf_eq, if_pos (by omega), if_neg (by omega)]
         congr 1
         funext n
         rw [if_pos (by assumption)]
       refine VL.loopI hTb (α := Nat × Nat) (fun x => x.1 ≤ (s.extract 1 s.size).size ∧ valD 0 (s.extract 1 s.size).data.toList = valD x.2 ((s.extract 1 s.size).data.toList.drop x.1) ∧ x.2 < 10 ^ x.1) (fun x => ⟨[(0, strS (s.extract 1 s.size)), (4, .one (.g (.bool (sgetI s 0 == 45)))), (5, iS x.2), (6, iS x.1)], [], []⟩) (fun x => (s.extract 1 s.size).size - x.1) (0, 0) ⟨Nat.zero_le _, rfl, by decide⟩
        (wk_to [] rfl rfl rfl ⟨rfl, rfl, rfl, rfl, trivial⟩ trivial) (fun x hx => ?_)
       obtain ⟨j, acc⟩ := x
       obtain ⟨hj, he, hb⟩ := hx
       simp only at hj he hb
       have hp : 10 ^ j ≤ 10 ^ 17 := Nat.pow_le_pow_right (by decide) (by omega)
       simp only [Nat.reducePow] at hp
       ((conv => whnf); repeat' (first
    | (refine And.intro ?_ ?_ <;> ((try intro h) <;> (try simp only [Bool.not_true, Bool.not_false, decide_eq_true_eq, decide_eq_false_iff_not, Int.not_lt, Int.not_le, gt_iff_lt, ge_iff_le] at h) <;> first | exact absurd h Bool.false_ne_true | exact absurd h.symm Bool.false_ne_true | conv => whnf))
    | (refine VL.drawS hTb hMix (by kernel_rfl) (by kernel_rfl) (by kernel_rfl) ?_; conv => whnf)
    | (refine Need.mk ?_; kernel_rfl) | (refine Need.mk ⟨rfl, ?_⟩; decide)
    | ((exfalso; omega))))
       all_goals (try simp only [Int.toNat_natCast, beq_iff_eq, beq_eq_false_iff_ne, ne_eq] at *)
       all_goals first
         | (refine Need.mk ?_; omega)
         | (rw [hN, he, valD_sg _ _ (by omega), if_neg (by omega)]; done)
         | (rw [hN, he, valD_sg _ _ (by omega), if_neg (by omega)]; exact rfl)
         | (rw [hN, he, valD_end _ _ (by omega), Option.map_some, if_pos (by assumption), numS]; have e0 : IntKind.i64.wrap (0 - (acc : Int)) = -(acc : Int) := by (rw [IntKind.wrap_i64]; omega)
            rw [e0]; done)
         | (rw [hN, he, valD_end _ _ (by omega), Option.map_some, if_neg (by assumption), numS]; done)
         | (have e1 := step_wrap (acc := acc) (x := sgetI (s.extract 1 s.size) j) (by assumption) (by assumption) (by omega)
            refine ⟨(j + 1, acc * 10 + ((sgetI (s.extract 1 s.size) j).toNat - 48)), ⟨?_, ?_, ?_⟩, ?_, wk_to [] rfl rfl rfl ⟨rfl, rfl, congrArg (fun x => Slot.one (.g (.int .i64 x))) e1, congrArg (fun x => Slot.one (.g (.int .i64 x))) (wrap64' (by unfold maxLen; omega)), trivial⟩ trivial⟩
            · show j + 1 ≤ _; omega
            · show _ = valD (acc * 10 + ((sgetI (s.extract 1 s.size) j).toNat - 48)) (List.drop (j + 1) _); rw [he, valD_sg _ _ (by omega), if_pos (by omega)]
            · show acc * 10 + ((sgetI (s.extract 1 s.size) j).toNat - 48) < 10 ^ (j + 1); rw [Nat.pow_succ]; omega
            · show _ - (j + 1) < _ - j; omega))
end Go.Vl
