/- The law on the order of values: what its function computes. -/
import Derived.Test.YtiaendjdmnpcdaaDb
namespace Go.Vl
open Go Go.RowKit Go.Proofs
set_option maxRecDepth 100000
set_option maxHeartbeats 2000000

theorem bl_cases : ∀ x y : List UInt8, (x = y ∧ Op.bytesLess x y = false ∧ Op.bytesLess y x = false) ∨ (x ≠ y ∧ Op.bytesLess x y = true ∧ Op.bytesLess y x = false) ∨ (x ≠ y ∧ Op.bytesLess x y = false ∧ Op.bytesLess y x = true)
  | [], [] => by simp [Op.bytesLess]
  | [], b :: y => by simp [Op.bytesLess]
  | a :: x, [] => by simp [Op.bytesLess]
  | a :: x, b :: y => by
    simp only [Op.bytesLess]
    by_cases h : a = b
    · subst h
      have := bl_cases x y
      simp
      rcases this with ⟨rfl, h⟩ | h | h <;> simp [h]
    · have h1 : (a == b) = false := by simpa using h
      have h2 : (b == a) = false := by simpa using Ne.symm h
      have h3 : a.toNat ≠ b.toNat := fun e => h (UInt8.toNat_inj.1 e)
      rw [h1, h2]
      simp only [Bool.false_and, Bool.or_false]
      simp only [UInt8.lt_iff_toNat_lt]
      have h4 : a :: x ≠ b :: y := fun e => h (List.cons.inj e).1
      rcases Nat.lt_or_ge a.toNat b.toNat with h5 | h5
      · right; left; exact ⟨h4, by simpa using h5, by simp; omega⟩
      · right; right; exact ⟨h4, by simp; omega, by simp; omega⟩
theorem bl_trans : ∀ {x y z : List UInt8}, Op.bytesLess x y = true → Op.bytesLess y z = true → Op.bytesLess x z = true
  | x, y, [], _, h2 => by cases y <;> simp [Op.bytesLess] at h2
  | [], y, c :: z, _, _ => by simp [Op.bytesLess]
  | a :: x, [], c :: z, h1, _ => by simp [Op.bytesLess] at h1
  | a :: x, b :: y, c :: z, h1, h2 => by
    simp only [Op.bytesLess, Bool.or_eq_true, Bool.and_eq_true, decide_eq_true_eq, beq_iff_eq, UInt8.lt_iff_toNat_lt] at h1 h2 ⊢
    rcases h1 with h1 | ⟨rfl, h1⟩ <;> rcases h2 with h2 | ⟨rfl, h2⟩
    · left; omega
    · left; exact h1
    · left; exact h2
    · right; exact ⟨rfl, bl_trans h1 h2⟩

def sameV (a b : Val) : Prop := a.k = b.k ∧ a.n = b.n ∧ a.t.toList = b.t.toList
theorem vl_cases (a b : Val) : (sameV a b ∧ valLess a b = false ∧ valLess b a = false) ∨ (¬ sameV a b ∧ valLess a b = true ∧ valLess b a = false) ∨ (¬ sameV a b ∧ valLess a b = false ∧ valLess b a = true) := by
  unfold valLess sameV
  by_cases h1 : a.k = b.k
  · by_cases h2 : a.n = b.n
    · have := bl_cases a.t.toList b.t.toList
      simp [h1, h2]
      rcases this with ⟨e, h⟩ | h | h
      · rw [e] at h ⊢; simp [h]
      · simp [h]
      · simp [h]
    · simp [h1, h2, Ne.symm h2]; omega
  · simp [h1, Ne.symm h1]; omega
theorem vl_trans {a b c : Val} (h1 : valLess a b = true) (h2 : valLess b c = true) : valLess a c = true := by
  unfold valLess at *
  by_cases e1 : a.k = b.k
  · by_cases e2 : b.k = c.k
    · by_cases f1 : a.n = b.n
      · by_cases f2 : b.n = c.n
        · simp_all; exact bl_trans h1 h2
        · simp_all
      · by_cases f2 : b.n = c.n
        · simp_all
        · simp_all; have : a.n ≠ c.n := by omega
          simp [this]; omega
    · simp_all
  · by_cases e2 : b.k = c.k
    · simp_all
    · simp_all; have : a.k ≠ c.k := by omega
      simp [this]; omega
theorem vl_zero {a : Val} (h : valOk a = true) : sameV a ⟨0, 0, ⟨#[]⟩⟩ ∨ valLess ⟨0, 0, ⟨#[]⟩⟩ a = true := by
  unfold valOk at h
  unfold sameV valLess
  by_cases h0 : a.k = 0
  · left; simp_all [emptyList]
  · right
    by_cases h1 : a.k = 1
    · simp [h1]
    · by_cases h2 : a.k = 2
      · simp [h2]
      · simp_all

def eqV (a b : Val) : Bool := a.k == b.k && (a.n == b.n && (a.t.toList == b.t.toList && true))
theorem eqV_iff (a b : Val) : eqV a b = true ↔ sameV a b := by simp [eqV, sameV]
theorem eqV_not (a b : Val) : eqV a b = false ↔ ¬ sameV a b := by rw [← eqV_iff]; simp
theorem le8 {n : Nat} (h : n ≤ 8) : n ≤ maxLen := by unfold maxLen; omega

theorem c_implValLess' (a b : Val) {x : Bool} (h : valLess a b = x) : CallsV Try.prog 18 [.agg (encVal a), .agg (encVal b)] [] (pureQ (bS x)) := h ▸ c_implValLess a b
theorem c_specValLess' (a b : Val) {x : Bool} (h : valLess a b = x) : CallsV Try.prog 16 [.agg (encVal a), .agg (encVal b)] [] (pureQ (bS x)) := h ▸ c_specValLess a b
theorem c_implValOk' (a : Val) (hv : a.t.size ≤ maxLen) {x : Bool} (h : valOk a = x) : CallsV Try.prog 20 [.agg (encVal a)] [] (pureQ (bS x)) := h ▸ c_implValOk a hv

theorem c_FnValLess {bs cs : List Int} (hl : bs.length ≤ maxLen) (hb : ∀ x ∈ bs, 0 ≤ x ∧ x < 256) (hl2 : cs.length ≤ maxLen) (hb2 : ∀ x ∈ cs, 0 ≤ x ∧ x < 256) : CallsV Try.prog 6 [bytesI bs, bytesI cs] [] (pureQ (bS true)) := by
  refine pure_walk hTb Try.func6 rfl rfl Try.ntmps6 (by simp) ?_
  (conv => whnf); repeat' (first
    | (refine And.intro ?_ ?_ <;> ((try intro h) <;> (try simp only [Bool.not_true, Bool.not_false] at h) <;> first | exact absurd h Bool.false_ne_true | exact absurd h.symm Bool.false_ne_true | conv => whnf))
    | (refine VL.drawS hTb hMix (by kernel_rfl) (by kernel_rfl) (by kernel_rfl) ?_; conv => whnf)
    | (refine Need.mk ?_; kernel_rfl) | (refine Need.mk ⟨rfl, ?_⟩; decide)
    | (refine VR.rel hTb rfl rfl (o_relN (c_DrawValLess hl hb) false [] (fun _ _ => ⟨by simp, fun h => by cases h⟩) rfl rfl rfl rfl rfl ⟨rfl, rfl, rfl, rfl⟩ rfl rfl) ?_; rintro ⟨⟨ak, an, at'⟩, ⟨bk, bn, bt⟩⟩ hy; (try simp only at hy); conv => whnf)
    | (refine DT.rel hTb rfl (o_relN (c_DrawValLess hl hb) false [] (fun _ _ => ⟨by simp, fun h => by cases h⟩) rfl rfl rfl rfl rfl ⟨rfl, rfl, rfl, rfl⟩ rfl rfl) [] (by kernel_rfl) (by kernel_rfl) ?_; rintro ⟨⟨ak, an, at'⟩, ⟨bk, bn, bt⟩⟩ hy; (try simp only at hy); refine And.intro rfl (And.intro rfl ?_); conv => whnf)
    | (refine VR.rel hTb rfl rfl (o_relN (c_DrawValLess hl2 hb2) false [] (fun _ _ => ⟨by simp, fun h => by cases h⟩) rfl rfl rfl rfl rfl ⟨rfl, rfl, rfl, rfl⟩ rfl rfl) ?_; rintro ⟨⟨ck, cn, ct⟩, ⟨dk, dn, dt⟩⟩ hy; (try simp only at hy); conv => whnf)
    | (refine DT.rel hTb rfl (o_relN (c_DrawValLess hl2 hb2) false [] (fun _ _ => ⟨by simp, fun h => by cases h⟩) rfl rfl rfl rfl rfl ⟨rfl, rfl, rfl, rfl⟩ rfl rfl) [] (by kernel_rfl) (by kernel_rfl) ?_; rintro ⟨⟨ck, cn, ct⟩, ⟨dk, dn, dt⟩⟩ hy; (try simp only at hy); refine And.intro rfl (And.intro rfl ?_); conv => whnf))
  all_goals first
    | rfl
    | (cases (show true = false from by assumption); done)
    | skip
  rename_i hle hab
  have hab1 := hab.1
  clear hab hle h
  obtain ⟨x1, h1⟩ : ∃ x, valLess ⟨ak, an, at'⟩ ⟨bk, bn, bt⟩ = x := ⟨_, rfl⟩
  obtain ⟨x2, h2⟩ : ∃ x, valLess ⟨bk, bn, bt⟩ ⟨ak, an, at'⟩ = x := ⟨_, rfl⟩
  obtain ⟨x3, h3⟩ : ∃ x, valLess ⟨bk, bn, bt⟩ ⟨ck, cn, ct⟩ = x := ⟨_, rfl⟩
  obtain ⟨x4, h4⟩ : ∃ x, valLess ⟨ak, an, at'⟩ ⟨ck, cn, ct⟩ = x := ⟨_, rfl⟩
  obtain ⟨x5, h5⟩ : ∃ x, valOk ⟨ak, an, at'⟩ = x := ⟨_, rfl⟩
  obtain ⟨x6, h6⟩ : ∃ x, valLess ⟨0, 0, ⟨#[]⟩⟩ ⟨ak, an, at'⟩ = x := ⟨_, rfl⟩
  have hc := vl_cases ⟨ak, an, at'⟩ ⟨bk, bn, bt⟩
  have hz := vl_zero (a := ⟨ak, an, at'⟩)
  have ht := vl_trans (a := ⟨ak, an, at'⟩) (b := ⟨bk, bn, bt⟩) (c := ⟨ck, cn, ct⟩)
  rw [h1, h2, ← eqV_iff, Bool.not_eq_true] at hc
  rw [h1, h3, h4] at ht
  rw [h5, h6, ← eqV_iff] at hz
  rcases hc with ⟨e, rfl, rfl⟩ | ⟨e, rfl, rfl⟩ | ⟨e, rfl, rfl⟩
  all_goals
    cases x5 <;> (conv => whnf); repeat' (first
    | (refine And.intro ?_ ?_ <;> ((try intro h) <;> (try simp only [Bool.not_true, Bool.not_false] at h) <;> first | exact absurd h Bool.false_ne_true | exact absurd h.symm Bool.false_ne_true | conv => whnf))
    | (refine VL.drawS hTb hMix (by kernel_rfl) (by kernel_rfl) (by kernel_rfl) ?_; conv => whnf)
    | (refine Need.mk ?_; kernel_rfl) | (refine Need.mk ⟨rfl, ?_⟩; decide)
    | (refine VR.pure hTb rfl rfl (o_purN (c_implValLess' ⟨_, _, _⟩ ⟨_, _, _⟩ (by assumption)) rfl rfl rfl ⟨rfl, rfl, rfl, rfl⟩ rfl) ?_; conv => whnf)
    | (refine DT.pure hTb rfl (o_purN (c_implValLess' ⟨_, _, _⟩ ⟨_, _, _⟩ (by assumption)) rfl rfl rfl ⟨rfl, rfl, rfl, rfl⟩ rfl) ?_; conv => whnf)
    | (refine VR.pure hTb rfl rfl (o_purN (c_specValLess' ⟨_, _, _⟩ ⟨_, _, _⟩ (by assumption)) rfl rfl rfl ⟨rfl, rfl, rfl, rfl⟩ rfl) ?_; conv => whnf)
    | (refine DT.pure hTb rfl (o_purN (c_specValLess' ⟨_, _, _⟩ ⟨_, _, _⟩ (by assumption)) rfl rfl rfl ⟨rfl, rfl, rfl, rfl⟩ rfl) ?_; conv => whnf)
    | (refine VR.pure hTb rfl rfl (o_purN (c_implValOk' ⟨_, _, _⟩ (le8 hab1) (by assumption)) rfl rfl rfl ⟨rfl, rfl, rfl, rfl⟩ rfl) ?_; conv => whnf)
    | (refine DT.pure hTb rfl (o_purN (c_implValOk' ⟨_, _, _⟩ (le8 hab1) (by assumption)) rfl rfl rfl ⟨rfl, rfl, rfl, rfl⟩ rfl) ?_; conv => whnf))
  all_goals first
    | rfl
    | (clear h1 h2 h3 h4 h5 h6 hb hb2 hl hl2 hy hab1
       simp only [eqV] at e hz
       generalize (ak == bk && (an == bn && (at'.toList == bt.toList && true))) = b1 at *
       generalize (ak == 0 && (an == 0 && (at'.toList == (⟨#[]⟩ : ByteArray).toList && true))) = b2 at *
       simp_all [bS]; done)
end Go.Vl
