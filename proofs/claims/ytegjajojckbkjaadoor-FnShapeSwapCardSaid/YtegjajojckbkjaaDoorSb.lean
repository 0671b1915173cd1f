/- Contracts: a number in decimals, as the reference writes it. -/
import Derived.Test.YtegjajojckbkjaaDoorSa
import Derived.Lib.ItoaLen
namespace Go.Vl
open Go Go.RowKit Go.Proofs
set_option maxRecDepth 100000
set_option linter.unusedSimpArgs false
set_option linter.unusedVariables false
set_option maxHeartbeats 800000

theorem bl_app (a b : List UInt8) : bl (a ++ b) = bl a ++ bl b := by
  apply ByteArray.ext; simp [bl]
theorem bl_one (n : Nat) (h : n < 10) : bsOf [IntKind.u8.wrap (IntKind.i64.wrap (48 + (n : Int)))] = bl [UInt8.ofNat (48 + n)] := by
  have : IntKind.u8.wrap (IntKind.i64.wrap (48 + (n : Int))) = ((48 + n : Nat) : Int) := by
    rw [IntKind.wrap_i64, IntKind.wrap_u8]; omega
  rw [this]; rfl
def decB (n : Nat) : ByteArray := bl (Lib.decDigits n)
theorem decB_step {n : Nat} (h : ¬ n < 10) : decB n = decB (n / 10) ++ bl [UInt8.ofNat (48 + n % 10)] := by
  unfold decB; rw [Lib.decDigits, dif_neg h, bl_app]
theorem decB_end {n : Nat} (h : n < 10) : decB n = bl [UInt8.ofNat (48 + n)] := by
  unfold decB; rw [Lib.decDigits, dif_pos h]
theorem decB_size (n : Nat) : (decB n).size = Lib.nDigits n := by
  rw [← Lib.decDigits_length]; simp [decB, bl, ByteArray.size]
theorem c_l10DecN (n : Nat) (hn : (n : Int) ≤ 9223372036854775807) : CallsV Tryd.prog 111 [iS n] [] (pureQ (strS (decB n))) := by
  refine pure_walk hTb Tryd.func111 rfl rfl Tryd.ntmps111 (by simp) ?_
  (conv => whnf); repeat' (first
    | (refine And.intro ?_ ?_ <;> ((try intro h) <;> (try simp only [Bool.not_true, Bool.not_false, decide_eq_true_eq, decide_eq_false_iff_not, Int.not_lt, Int.not_le, gt_iff_lt, ge_iff_le] at h) <;> first | exact absurd h Bool.false_ne_true | exact absurd h.symm Bool.false_ne_true | conv => whnf))
    | (refine VL.drawS hTb hMix (by kernel_rfl) (by kernel_rfl) (by kernel_rfl) ?_; conv => whnf)
    | (refine Need.mk ?_; kernel_rfl) | (refine Need.mk ⟨rfl, ?_⟩; decide)
    | ((exfalso; omega)))
  refine VL.loopI hTb (α := Nat × ByteArray) (fun x => x.1 ≤ n ∧ decB x.1 ++ x.2 = decB n) (fun x => ⟨[(0, iS x.1), (3, strS x.2)], [], []⟩) (fun x => x.1) (n, ⟨#[]⟩) ⟨Nat.le_refl _, ByteArray.ext (by simp)⟩
    (wk_to [] rfl rfl rfl ⟨rfl, rfl, trivial⟩ trivial) (fun x hx => ?_)
  obtain ⟨m, out⟩ := x
  obtain ⟨hm, he⟩ := hx
  simp only at hm he
  (conv => whnf); repeat' (first
    | (refine And.intro ?_ ?_ <;> ((try intro h) <;> (try simp only [Bool.not_true, Bool.not_false, decide_eq_true_eq, decide_eq_false_iff_not, Int.not_lt, Int.not_le, gt_iff_lt, ge_iff_le] at h) <;> first | exact absurd h Bool.false_ne_true | exact absurd h.symm Bool.false_ne_true | conv => whnf))
    | (refine VL.drawS hTb hMix (by kernel_rfl) (by kernel_rfl) (by kernel_rfl) ?_; conv => whnf)
    | (refine Need.mk ?_; kernel_rfl) | (refine Need.mk ⟨rfl, ?_⟩; decide)
    | ((exfalso; omega))
    | ((refine VR.op hTb rfl rfl (o_conv_bytes (ns := [_]) hTb rfl rfl rfl rfl rfl rfl rfl rfl rfl (by simp)) rfl ?_; conv => whnf)))
  · have h1 := congrArg ByteArray.size he
    rw [ByteArray.size_append, decB_size, decB_size] at h1
    have h2 := Lib.nDigits_le20 n (by omega)
    refine Need.mk ?_
    rw [bsOf_size]
    simp only [List.length_cons, List.length_nil]
    omega
  · have e1 : (m : Int).tmod 10 = ((m % 10 : Nat) : Int) := rfl
    have e0 : (m : Int).tdiv 10 = ((m / 10 : Nat) : Int) := rfl
    have e2 : IntKind.i64.wrap ((m : Int).tdiv 10) = ((m / 10 : Nat) : Int) := by rw [e0, IntKind.wrap_i64]; omega
    have e3 := bl_one (m % 10) (by omega)
    rw [← e1] at e3
    refine ⟨(m / 10, bsOf [IntKind.u8.wrap (IntKind.i64.wrap (48 + (m : Int).tmod 10))] ++ out), ⟨by omega, ?_⟩, by show m / 10 < m; omega, wk_to [] rfl rfl rfl ⟨congrArg (fun x => Slot.one (.g (.int .i64 x))) e2, rfl, trivial⟩ trivial⟩
    show decB (m / 10) ++ (_ ++ out) = decB n
    rw [e3, ← ByteArray.append_assoc, ← decB_step (by omega), he]
  · have h1 := congrArg ByteArray.size he
    rw [ByteArray.size_append, decB_size, decB_size] at h1
    have h2 := Lib.nDigits_le20 n (by omega)
    refine Need.mk ?_
    rw [bsOf_size]
    simp only [List.length_cons, List.length_nil]
    omega
  · have e3 := bl_one m (by omega)
    show strS (bsOf [IntKind.u8.wrap (IntKind.i64.wrap (48 + (m : Int)))] ++ out) = strS (decB n)
    rw [e3, ← decB_end (by omega), he]
theorem c_l10Dec (n : Int) (h0 : -9223372036854775807 ≤ n) (h1 : n ≤ 9223372036854775807) : CallsV Tryd.prog 111 [iS n] [] (pureQ (strS (bl (Lib.itoa n)))) := by
  by_cases hneg : n < 0
  · obtain ⟨u, rfl⟩ : ∃ u : Nat, n = -(u : Int) := ⟨n.natAbs, by omega⟩
    have hc := c_l10DecN u (by omega)
    have e1 : IntKind.i64.wrap (0 - (-(u : Int))) = u := by rw [IntKind.wrap_i64]; omega
    rw [Lib.itoa_neg u (by omega)]
    refine pure_walk hTb Tryd.func111 rfl rfl Tryd.ntmps111 (by simp) ?_
    (conv => whnf); repeat' (first
    | (refine And.intro ?_ ?_ <;> ((try intro h) <;> (try simp only [Bool.not_true, Bool.not_false, decide_eq_true_eq, decide_eq_false_iff_not, Int.not_lt, Int.not_le, gt_iff_lt, ge_iff_le] at h) <;> first | exact absurd h Bool.false_ne_true | exact absurd h.symm Bool.false_ne_true | conv => whnf))
    | (refine VL.drawS hTb hMix (by kernel_rfl) (by kernel_rfl) (by kernel_rfl) ?_; conv => whnf)
    | (refine Need.mk ?_; kernel_rfl) | (refine Need.mk ⟨rfl, ?_⟩; decide)
    | ((exfalso; omega))
    | ((refine VR.pure hTb rfl rfl (o_purN (e1 ▸ hc) rfl rfl rfl ⟨rfl, rfl, rfl, rfl⟩ rfl) ?_; conv => whnf)))
    · have h2 := Lib.nDigits_le20 u (by omega)
      refine Need.mk ?_
      rw [decB_size]
      show 1 + _ ≤ _
      omega
    · show strS (bl [45] ++ bl (Lib.decDigits u)) = strS (bl (45 :: Lib.decDigits u))
      rw [← bl_app]; rfl
  · obtain ⟨u, rfl⟩ : ∃ u : Nat, n = u := ⟨n.toNat, by omega⟩
    rw [Lib.itoa_nonneg]
    exact c_l10DecN u (by omega)
end Go.Vl
