/- Contracts: a value's soundness. -/
import Derived.Test.YtegjajojckbkjaaDoorCa
namespace Go.Vl
open Go Go.RowKit Go.Proofs
set_option maxRecDepth 100000
set_option linter.unusedSimpArgs false
set_option linter.unusedVariables false
set_option maxHeartbeats 400000

def strS (s : ByteArray) : Slot := .one (.g (.string s))
theorem c_in (n lo hi : Int) : CallsV Tryd.prog 64 [iS n, iS lo, iS hi] [] (pureQ (bS (decide (lo ≤ n) && decide (n ≤ hi)))) := by
  refine pure_walk hTb Tryd.func64 rfl rfl Tryd.ntmps64 (by simp) ?_
  (conv => whnf); repeat' (first | (refine And.intro ?_ ?_ <;> ((try intro h) <;> (try simp only [Bool.not_true, Bool.not_false] at h) <;> first | exact absurd h Bool.false_ne_true | exact absurd h.symm Bool.false_ne_true | conv => whnf)) | (refine Need.mk ?_; kernel_rfl) | (refine Need.mk ⟨rfl, ?_⟩; decide))
  all_goals (simp_all [bS])
  all_goals (try (intro; omega))

theorem c_l1Num (n : Int) : CallsV Tryd.prog 88 [iS n] [] (pureQ (bS (decide (-999 ≤ n) && decide (n ≤ 999)))) := by
  refine pure_walk hTb Tryd.func88 rfl rfl Tryd.ntmps88 (by simp) ?_
  (conv => whnf); repeat' (first | (refine And.intro ?_ ?_ <;> ((try intro h) <;> (try simp only [Bool.not_true, Bool.not_false] at h) <;> first | exact absurd h Bool.false_ne_true | exact absurd h.symm Bool.false_ne_true | conv => whnf)) | (refine Need.mk ?_; kernel_rfl) | (refine Need.mk ⟨rfl, ?_⟩; decide))
  all_goals (simp_all [bS])
  all_goals (try (intro; omega))

/-- A byte that a text may hold. -/
def okByte (c : Int) : Bool := decide ((97 ≤ c ∧ c ≤ 122) ∨ (48 ≤ c ∧ c ≤ 57) ∨ c = 45)
/-- The bytes from the i-th on are such. -/
def okFrom (s : ByteArray) (i : Nat) : Bool := (List.range' i (s.size - i)).all fun j => okByte (sgetI s j)
theorem okFrom_step {s : ByteArray} {i : Nat} (h : i < s.size) : okFrom s i = (okByte (sgetI s i) && okFrom s (i + 1)) := by
  unfold okFrom
  rw [show s.size - i = (s.size - (i + 1)) + 1 by omega, List.range'_succ, List.all_cons]
theorem okFrom_end {s : ByteArray} {i : Nat} (h : s.size ≤ i) : okFrom s i = true := by
  unfold okFrom
  rw [show s.size - i = 0 by omega]; rfl
def textOk (s : ByteArray) : Bool := okFrom s 0 && decide ((s.size : Int) ≤ 4)

theorem wrap64 {n : Nat} (h : n ≤ maxLen) : IntKind.i64.wrap (n : Int) = n := by
  rw [IntKind.wrap_i64]; unfold maxLen at h; omega
theorem wrap64' {n : Nat} (h : n + 1 ≤ maxLen) : IntKind.i64.wrap ((n : Int) + 1) = ((n + 1 : Nat) : Int) := by
  rw [IntKind.wrap_i64]; unfold maxLen at h; omega

theorem c_l1Text (s : ByteArray) (hs : s.size ≤ maxLen) : CallsV Tryd.prog 89 [.one (.g (.string s))] [] (pureQ (bS (textOk s))) := by
  refine pure_walk hTb Tryd.func89 rfl rfl Tryd.ntmps89 (by simp) ?_
  (conv => whnf); repeat' (first | (refine And.intro ?_ ?_ <;> ((try intro h) <;> (try simp only [Bool.not_true, Bool.not_false] at h) <;> first | exact absurd h Bool.false_ne_true | exact absurd h.symm Bool.false_ne_true | conv => whnf)) | (refine Need.mk ?_; kernel_rfl) | (refine Need.mk ⟨rfl, ?_⟩; decide))
  refine VL.loopI hTb (fun i => i ≤ s.size ∧ okFrom s 0 = okFrom s i) (fun i => ⟨[(0, .one (.g (.string s))), (3, iS i)], [], []⟩) (fun i => s.size - i) 0 ⟨Nat.zero_le _, rfl⟩
    (wk_to [] rfl rfl rfl ⟨rfl, rfl, trivial⟩ trivial) (fun i hi => ?_)
  obtain ⟨hi, hf⟩ := hi
  (conv => whnf); repeat' (first | (refine And.intro ?_ ?_ <;> ((try intro h) <;> (try simp only [Bool.not_true, Bool.not_false] at h) <;> first | exact absurd h Bool.false_ne_true | exact absurd h.symm Bool.false_ne_true | conv => whnf)) | (refine Need.mk ?_; kernel_rfl) | (refine Need.mk ⟨rfl, ?_⟩; decide))
  set_option linter.unusedSimpArgs false in
  all_goals (try simp only [Int.toNat_natCast, decide_eq_true_eq, decide_eq_false_iff_not, bne_iff_ne, bne_eq_false_iff_eq, beq_iff_eq, beq_eq_false_iff_ne, ne_eq, Int.ofNat_lt, Bool.not_true, Bool.not_false, Bool.not_eq_true, Bool.true_eq_false, Bool.false_eq_true, reduceCtorEq] at *)
  all_goals first
    | (refine Need.mk ?_; omega)
    | (refine ⟨i + 1, ⟨by omega, ?_⟩, by omega, wk_to [] rfl rfl rfl ⟨rfl, congrArg (fun x => Slot.one (.g (.int .i64 x))) (wrap64' (by omega)), trivial⟩ trivial⟩; rw [hf, okFrom_step (by omega), show okByte (sgetI s i) = true from decide_eq_true (by omega), Bool.true_and]; done)
    | (simp only [bS, textOk, hf]; rw [okFrom_step (by omega), show okByte (sgetI s i) = false from decide_eq_false (by omega), Bool.false_and, Bool.false_and]; done)
    | (simp only [bS, textOk, hf]; rw [okFrom_end (by omega), Bool.true_and]; done)

def valOk (v : Val) : Bool :=
  if v.k = 0 then v.n == 0 && v.t.toList == [] else if v.k = 1 then (decide (-999 ≤ v.n) && decide (v.n ≤ 999)) && v.t.toList == [] else if v.k = 2 then v.n == 0 && textOk v.t else false

theorem emptyList : (⟨#[]⟩ : ByteArray).toList = [] := by rw [ByteArray.toList_eq]

theorem c_specValOk (v : Val) (hv : v.t.size ≤ maxLen) : CallsV Tryd.prog 56 [.agg (encVal v)] [] (pureQ (bS (valOk v))) := by
  refine pure_walk hTb Tryd.func56 rfl rfl Tryd.ntmps56 (by simp) ?_
  (conv => whnf); repeat' (first
    | (refine And.intro ?_ ?_ <;> ((try intro h) <;> (try simp only [Bool.not_true, Bool.not_false] at h) <;> first | exact absurd h Bool.false_ne_true | exact absurd h.symm Bool.false_ne_true | conv => whnf))
    | (refine VL.drawS hTb hMix (by kernel_rfl) (by kernel_rfl) (by kernel_rfl) ?_; conv => whnf)
    | (refine Need.mk ?_; kernel_rfl) | (refine Need.mk ⟨rfl, ?_⟩; decide)
    | (refine VR.pure hTb rfl rfl (o_purN (c_l1Num _) rfl rfl rfl ⟨rfl, rfl, rfl, rfl⟩ rfl) ?_; conv => whnf)
    | (refine DT.pure hTb rfl (o_purN (c_l1Num _) rfl rfl rfl ⟨rfl, rfl, rfl, rfl⟩ rfl) ?_; conv => whnf)
    | (refine VR.pure hTb rfl rfl (o_purN (c_l1Text _ hv) rfl rfl rfl ⟨rfl, rfl, rfl, rfl⟩ rfl) ?_; conv => whnf)
    | (refine DT.pure hTb rfl (o_purN (c_l1Text _ hv) rfl rfl rfl ⟨rfl, rfl, rfl, rfl⟩ rfl) ?_; conv => whnf))
  set_option linter.unusedSimpArgs false in
  all_goals (try simp only [Int.toNat_natCast, decide_eq_true_eq, decide_eq_false_iff_not, bne_iff_ne, bne_eq_false_iff_eq, beq_iff_eq, beq_eq_false_iff_ne, ne_eq, Int.ofNat_lt, Bool.not_true, Bool.not_false, Bool.not_eq_true, Bool.true_eq_false, Bool.false_eq_true, reduceCtorEq] at *)
  all_goals simp_all [valOk, bS, emptyList]

theorem c_implValOk (v : Val) (hv : v.t.size ≤ maxLen) : CallsV Tryd.prog 86 [.agg (encVal v)] [] (pureQ (bS (valOk v))) := by
  refine pure_walk hTb Tryd.func86 rfl rfl Tryd.ntmps86 (by simp) ?_
  (conv => whnf); repeat' (first
    | (refine And.intro ?_ ?_ <;> ((try intro h) <;> (try simp only [Bool.not_true, Bool.not_false] at h) <;> first | exact absurd h Bool.false_ne_true | exact absurd h.symm Bool.false_ne_true | conv => whnf))
    | (refine VL.drawS hTb hMix (by kernel_rfl) (by kernel_rfl) (by kernel_rfl) ?_; conv => whnf)
    | (refine Need.mk ?_; kernel_rfl) | (refine Need.mk ⟨rfl, ?_⟩; decide)
    | (refine VR.pure hTb rfl rfl (o_purN (c_in _ _ _) rfl rfl rfl ⟨rfl, rfl, rfl, rfl⟩ rfl) ?_; conv => whnf)
    | (refine DT.pure hTb rfl (o_purN (c_in _ _ _) rfl rfl rfl ⟨rfl, rfl, rfl, rfl⟩ rfl) ?_; conv => whnf))
  all_goals first
    | (refine VL.loopI hTb (fun i => i ≤ v.t.size ∧ okFrom v.t 0 = okFrom v.t i) (fun i => ⟨[(1, .one (.ptr 101 0)), (26, iS v.t.size), (27, iS i)], [(101, .box (encVal v))], []⟩) (fun i => v.t.size - i) 0 ⟨Nat.zero_le _, rfl⟩
        (wk_to [(101, 101)] rfl rfl rfl ⟨rfl, rfl, rfl, trivial⟩ ⟨rfl, ⟨_, rfl, rfl⟩, trivial⟩) (fun i hi => ?_)
       obtain ⟨hi, hf⟩ := hi
       (conv => whnf); repeat' (first | (refine And.intro ?_ ?_ <;> ((try intro h) <;> (try simp only [Bool.not_true, Bool.not_false] at h) <;> first | exact absurd h Bool.false_ne_true | exact absurd h.symm Bool.false_ne_true | conv => whnf)) | (refine Need.mk ?_; kernel_rfl) | (refine Need.mk ⟨rfl, ?_⟩; decide)))
    | (simp_all [valOk, bS, emptyList]; done)
    | (simp_all [valOk, bS, emptyList]; intros; omega)
  set_option linter.unusedSimpArgs false in
  all_goals (try simp only [Int.toNat_natCast, decide_eq_true_eq, decide_eq_false_iff_not, bne_iff_ne, bne_eq_false_iff_eq, beq_iff_eq, beq_eq_false_iff_ne, ne_eq, Int.ofNat_lt, Bool.not_true, Bool.not_false, Bool.not_eq_true, Bool.true_eq_false, Bool.false_eq_true, reduceCtorEq] at *)
  all_goals first
    | (refine Need.mk ?_; omega)
    | (refine ⟨i + 1, ⟨by omega, ?_⟩, by omega, wk_to [(101, 101)] rfl rfl rfl ⟨rfl, rfl, congrArg (fun x => Slot.one (.g (.int .i64 x))) (wrap64' (by omega)), trivial⟩ ⟨rfl, ⟨_, rfl, rfl⟩, trivial⟩⟩; rw [hf, okFrom_step (by omega), show okByte (sgetI v.t i) = true from decide_eq_true (by omega), Bool.true_and]; done)
    | (have e : textOk v.t = false := by
         simp only [textOk, hf]
         rw [okFrom_step (by omega), show okByte (sgetI v.t i) = false from decide_eq_false (by omega), Bool.false_and, Bool.false_and]
       simp_all [valOk, bS]; done)
    | (have e : textOk v.t = decide ((v.t.size : Int) ≤ 4) := by
         simp only [textOk, hf]
         rw [okFrom_end (by omega), Bool.true_and]
       simp_all [valOk, bS]; done)
end Go.Vl
