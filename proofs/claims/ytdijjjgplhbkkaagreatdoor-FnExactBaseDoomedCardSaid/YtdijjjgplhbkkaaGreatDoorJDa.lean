/- Contracts: values' order and size. Contracts: a value's soundness. Contracts: the reader of a code, what it draws. Contracts: what the reader draws: texts, numbers, values. Contracts: columns. The data of the laws: types, how they lie as leaves. Printed by our own gends.py. -/
import Derived.Test.YtdijjjgplhbkkaaGreatDoorTab
import Derived.Test.YtdijjjgplhbkkaaGreatDoorWg
import Derived.Test.YtdijjjgplhbkkaaGreatDoorWi
set_option linter.unusedSimpArgs false
set_option linter.unusedVariables false

namespace Go.Vl
open Go Go.RowKit Go.Proofs

structure Val where
  k : Int
  n : Int
  t : ByteArray
def encVal : Val → List Leaf
  | ⟨k, n, t⟩ => [.g (.int .i64 k), .g (.int .i64 n), .g (.string t)]
def bS (b : Bool) : Slot := .one (.g (.bool b))
def iS (n : Int) : Slot := .one (.g (.int .i64 n))
set_option maxRecDepth 100000
set_option linter.unusedSimpArgs false
set_option linter.unusedVariables false
set_option maxHeartbeats 400000

end Go.Vl

namespace Go.Vl
open Go Go.RowKit Go.Proofs
set_option maxRecDepth 100000
set_option linter.unusedSimpArgs false
set_option linter.unusedVariables false
set_option maxHeartbeats 400000

def strS (s : ByteArray) : Slot := .one (.g (.string s))
theorem c_in (n lo hi : Int) : CallsV Tryz.prog 80 [iS n, iS lo, iS hi] [] (pureQ (bS (decide (lo ≤ n) && decide (n ≤ hi)))) := by
  refine pure_walk hTb Tryz.func80 rfl rfl Tryz.ntmps80 (by simp) ?_
  (conv => whnf); repeat' (first | (refine And.intro ?_ ?_ <;> ((try intro h) <;> (try simp only [Bool.not_true, Bool.not_false] at h) <;> first | exact absurd h Bool.false_ne_true | exact absurd h.symm Bool.false_ne_true | conv => whnf)) | (refine Need.mk ?_; kernel_rfl) | (refine Need.mk ⟨rfl, ?_⟩; decide))
  all_goals (simp_all [bS])
  all_goals (try (intro; omega))

theorem c_l1Num (n : Int) : CallsV Tryz.prog 207 [iS n] [] (pureQ (bS (decide (-999 ≤ n) && decide (n ≤ 999)))) := by
  refine pure_walk hTb Tryz.func207 rfl rfl Tryz.ntmps207 (by simp) ?_
  (conv => whnf); repeat' (first | (refine And.intro ?_ ?_ <;> ((try intro h) <;> (try simp only [Bool.not_true, Bool.not_false] at h) <;> first | exact absurd h Bool.false_ne_true | exact absurd h.symm Bool.false_ne_true | conv => whnf)) | (refine Need.mk ?_; kernel_rfl) | (refine Need.mk ⟨rfl, ?_⟩; decide))
  all_goals (simp_all [bS])
  all_goals (try (intro; omega))

/-- A byte that a text may hold. -/
def okByte (c : Int) : Bool := decide ((97 ≤ c ∧ c ≤ 122) ∨ (48 ≤ c ∧ c ≤ 57) ∨ c = 45)
/-- The bytes from the i-th on are such. -/
def okFrom (s : ByteArray) (i : Nat) : Bool := (List.range' i (s.size - i)).all fun j => okByte (sgetI s j)
theorem okFrom_step {s : ByteArray} {i : Nat} (h : i < s.size) : okFrom s i = (okByte (sgetI s i) && okFrom s (i + 1)) := by
  unfold okFrom
  rw [show s.size - i = (s.size - (i + 1)) + 1 by omega, List.range'_succ, List.all_cons]
theorem okFrom_end {s : ByteArray} {i : Nat} (h : s.size ≤ i) : okFrom s i = true := by
  unfold okFrom
  rw [show s.size - i = 0 by omega]; rfl
def textOk (s : ByteArray) : Bool := okFrom s 0 && decide ((s.size : Int) ≤ 4)

theorem wrap64' {n : Nat} (h : n + 1 ≤ maxLen) : IntKind.i64.wrap ((n : Int) + 1) = ((n + 1 : Nat) : Int) := by
  rw [IntKind.wrap_i64]; unfold maxLen at h; omega

theorem c_l1Text (s : ByteArray) (hs : s.size ≤ maxLen) : CallsV Tryz.prog 208 [.one (.g (.string s))] [] (pureQ (bS (textOk s))) := by
  refine pure_walk hTb Tryz.func208 rfl rfl Tryz.ntmps208 (by simp) ?_
  (conv => whnf); repeat' (first | (refine And.intro ?_ ?_ <;> ((try intro h) <;> (try simp only [Bool.not_true, Bool.not_false] at h) <;> first | exact absurd h Bool.false_ne_true | exact absurd h.symm Bool.false_ne_true | conv => whnf)) | (refine Need.mk ?_; kernel_rfl) | (refine Need.mk ⟨rfl, ?_⟩; decide))
  refine VL.loopI hTb (fun i => i ≤ s.size ∧ okFrom s 0 = okFrom s i) (fun i => ⟨[(0, .one (.g (.string s))), (3, iS i)], [], []⟩) (fun i => s.size - i) 0 ⟨Nat.zero_le _, rfl⟩
    (wk_to [] rfl rfl rfl ⟨rfl, rfl, trivial⟩ trivial) (fun i hi => ?_)
  obtain ⟨hi, hf⟩ := hi
  (conv => whnf); repeat' (first | (refine And.intro ?_ ?_ <;> ((try intro h) <;> (try simp only [Bool.not_true, Bool.not_false] at h) <;> first | exact absurd h Bool.false_ne_true | exact absurd h.symm Bool.false_ne_true | conv => whnf)) | (refine Need.mk ?_; kernel_rfl) | (refine Need.mk ⟨rfl, ?_⟩; decide))
  set_option linter.unusedSimpArgs false in
  all_goals (try simp only [Int.toNat_natCast, decide_eq_true_eq, decide_eq_false_iff_not, bne_iff_ne, bne_eq_false_iff_eq, beq_iff_eq, beq_eq_false_iff_ne, ne_eq, Int.ofNat_lt, Bool.not_true, Bool.not_false, Bool.not_eq_true, Bool.true_eq_false, Bool.false_eq_true, reduceCtorEq] at *)
  all_goals first
    | (refine Need.mk ?_; omega)
    | (refine ⟨i + 1, ⟨by omega, ?_⟩, by omega, wk_to [] rfl rfl rfl ⟨rfl, congrArg (fun x => Slot.one (.g (.int .i64 x))) (wrap64' (by omega)), trivial⟩ trivial⟩; rw [hf, okFrom_step (by omega), show okByte (sgetI s i) = true from decide_eq_true (by omega), Bool.true_and]; done)
    | (simp only [bS, textOk, hf]; rw [okFrom_step (by omega), show okByte (sgetI s i) = false from decide_eq_false (by omega), Bool.false_and, Bool.false_and]; done)
    | (simp only [bS, textOk, hf]; rw [okFrom_end (by omega), Bool.true_and]; done)

def valOk (v : Val) : Bool :=
  if v.k = 0 then v.n == 0 && v.t.toList == [] else if v.k = 1 then (decide (-999 ≤ v.n) && decide (v.n ≤ 999)) && v.t.toList == [] else if v.k = 2 then v.n == 0 && textOk v.t else false

theorem emptyList : (⟨#[]⟩ : ByteArray).toList = [] := by rw [ByteArray.toList_eq]

theorem c_specValOk (v : Val) (hv : v.t.size ≤ maxLen) : CallsV Tryz.prog 183 [.agg (encVal v)] [] (pureQ (bS (valOk v))) := by
  refine pure_walk hTb Tryz.func183 rfl rfl Tryz.ntmps183 (by simp) ?_
  (conv => whnf); repeat' (first
    | (refine And.intro ?_ ?_ <;> ((try intro h) <;> (try simp only [Bool.not_true, Bool.not_false] at h) <;> first | exact absurd h Bool.false_ne_true | exact absurd h.symm Bool.false_ne_true | conv => whnf))
    | (refine VL.drawS hTb hMix (by kernel_rfl) (by kernel_rfl) (by kernel_rfl) ?_; conv => whnf)
    | (refine Need.mk ?_; kernel_rfl) | (refine Need.mk ⟨rfl, ?_⟩; decide)
    | (refine VR.pure hTb rfl rfl (o_purN (c_l1Num _) rfl rfl rfl ⟨rfl, rfl, rfl, rfl⟩ rfl) ?_; conv => whnf)
    | (refine DT.pure hTb rfl (o_purN (c_l1Num _) rfl rfl rfl ⟨rfl, rfl, rfl, rfl⟩ rfl) ?_; conv => whnf)
    | (refine VR.pure hTb rfl rfl (o_purN (c_l1Text _ hv) rfl rfl rfl ⟨rfl, rfl, rfl, rfl⟩ rfl) ?_; conv => whnf)
    | (refine DT.pure hTb rfl (o_purN (c_l1Text _ hv) rfl rfl rfl ⟨rfl, rfl, rfl, rfl⟩ rfl) ?_; conv => whnf))
  set_option linter.unusedSimpArgs false in
  all_goals (try simp only [Int.toNat_natCast, decide_eq_true_eq, decide_eq_false_iff_not, bne_iff_ne, bne_eq_false_iff_eq, beq_iff_eq, beq_eq_false_iff_ne, ne_eq, Int.ofNat_lt, Bool.not_true, Bool.not_false, Bool.not_eq_true, Bool.true_eq_false, Bool.false_eq_true, reduceCtorEq] at *)
  all_goals simp_all [valOk, bS, emptyList]

theorem c_implValOk (v : Val) (hv : v.t.size ≤ maxLen) : CallsV Tryz.prog 143 [.agg (encVal v)] [] (pureQ (bS (valOk v))) := by
  refine pure_walk hTb Tryz.func143 rfl rfl Tryz.ntmps143 (by simp) ?_
  (conv => whnf); repeat' (first
    | (refine And.intro ?_ ?_ <;> ((try intro h) <;> (try simp only [Bool.not_true, Bool.not_false] at h) <;> first | exact absurd h Bool.false_ne_true | exact absurd h.symm Bool.false_ne_true | conv => whnf))
    | (refine VL.drawS hTb hMix (by kernel_rfl) (by kernel_rfl) (by kernel_rfl) ?_; conv => whnf)
    | (refine Need.mk ?_; kernel_rfl) | (refine Need.mk ⟨rfl, ?_⟩; decide)
    | (refine VR.pure hTb rfl rfl (o_purN (c_in _ _ _) rfl rfl rfl ⟨rfl, rfl, rfl, rfl⟩ rfl) ?_; conv => whnf)
    | (refine DT.pure hTb rfl (o_purN (c_in _ _ _) rfl rfl rfl ⟨rfl, rfl, rfl, rfl⟩ rfl) ?_; conv => whnf))
  all_goals first
    | (refine VL.loopI hTb (fun i => i ≤ v.t.size ∧ okFrom v.t 0 = okFrom v.t i) (fun i => ⟨[(1, .one (.ptr 101 0)), (26, iS v.t.size), (27, iS i)], [(101, .box (encVal v))], []⟩) (fun i => v.t.size - i) 0 ⟨Nat.zero_le _, rfl⟩
        (wk_to [(101, 101)] rfl rfl rfl ⟨rfl, rfl, rfl, trivial⟩ ⟨rfl, ⟨_, rfl, rfl⟩, trivial⟩) (fun i hi => ?_)
       obtain ⟨hi, hf⟩ := hi
       (conv => whnf); repeat' (first | (refine And.intro ?_ ?_ <;> ((try intro h) <;> (try simp only [Bool.not_true, Bool.not_false] at h) <;> first | exact absurd h Bool.false_ne_true | exact absurd h.symm Bool.false_ne_true | conv => whnf)) | (refine Need.mk ?_; kernel_rfl) | (refine Need.mk ⟨rfl, ?_⟩; decide)))
    | (simp_all [valOk, bS, emptyList]; done)
    | (simp_all [valOk, bS, emptyList]; intros; omega)
  set_option linter.unusedSimpArgs false in
  all_goals (try simp only [Int.toNat_natCast, decide_eq_true_eq, decide_eq_false_iff_not, bne_iff_ne, bne_eq_false_iff_eq, beq_iff_eq, beq_eq_false_iff_ne, ne_eq, Int.ofNat_lt, Bool.not_true, Bool.not_false, Bool.not_eq_true, Bool.true_eq_false, Bool.false_eq_true, reduceCtorEq] at *)
  all_goals first
    | (refine Need.mk ?_; omega)
    | (refine ⟨i + 1, ⟨by omega, ?_⟩, by omega, wk_to [(101, 101)] rfl rfl rfl ⟨rfl, rfl, congrArg (fun x => Slot.one (.g (.int .i64 x))) (wrap64' (by omega)), trivial⟩ ⟨rfl, ⟨_, rfl, rfl⟩, trivial⟩⟩; rw [hf, okFrom_step (by omega), show okByte (sgetI v.t i) = true from decide_eq_true (by omega), Bool.true_and]; done)
    | (have e : textOk v.t = false := by
         simp only [textOk, hf]
         rw [okFrom_step (by omega), show okByte (sgetI v.t i) = false from decide_eq_false (by omega), Bool.false_and, Bool.false_and]
       simp_all [valOk, bS]; done)
    | (have e : textOk v.t = decide ((v.t.size : Int) ≤ 4) := by
         simp only [textOk, hf]
         rw [okFrom_end (by omega), Bool.true_and]
       simp_all [valOk, bS]; done)
end Go.Vl

namespace Go.Vl
open Go Go.RowKit Go.Proofs
set_option maxRecDepth 100000
set_option linter.unusedSimpArgs false
set_option linter.unusedVariables false
set_option maxHeartbeats 1000000

structure BOk (bs : List Int) : Prop where
  b : ∀ x ∈ bs, 0 ≤ x ∧ x < 256
  l : bs.length ≤ 2000
end Go.Vl

namespace Go.Vl
open Go Go.RowKit Go.Proofs
set_option maxRecDepth 100000
set_option linter.unusedSimpArgs false
set_option linter.unusedVariables false
set_option maxHeartbeats 1000000

end Go.Vl

namespace Go.Vl
open Go Go.RowKit Go.Proofs
set_option maxRecDepth 100000
set_option linter.unusedSimpArgs false
set_option linter.unusedVariables false
set_option maxHeartbeats 400000

structure Col where
  name : ByteArray
  kind : Int
  need : Bool
  once : Bool
  d : Val
def encCol : Col → List Leaf
  | ⟨name, kind, need, once, ⟨k, n, t⟩⟩ => [.g (.string name), .g (.int .i64 kind), .g (.bool need), .g (.bool once), .g (.int .i64 k), .g (.int .i64 n), .g (.string t)]
def Col.ok (c : Col) : Prop := c.name.size ≤ maxLen ∧ c.d.t.size ≤ maxLen

def colsI (cs : List Col) : Slot := .one (.imm 7 (cs.map encCol))
def valsI (cs : List Val) : Slot := .one (.imm 3 (cs.map encVal))

def letByte (c : Int) : Bool := decide (97 ≤ c ∧ c ≤ 122)
def letFrom (s : ByteArray) (i : Nat) : Bool := (List.range' i (s.size - i)).all fun j => letByte (sgetI s j)
theorem letFrom_step {s : ByteArray} {i : Nat} (h : i < s.size) : letFrom s i = (letByte (sgetI s i) && letFrom s (i + 1)) := by
  unfold letFrom
  rw [show s.size - i = (s.size - (i + 1)) + 1 by omega, List.range'_succ, List.all_cons]
theorem letFrom_end {s : ByteArray} {i : Nat} (h : s.size ≤ i) : letFrom s i = true := by
  unfold letFrom
  rw [show s.size - i = 0 by omega]; rfl
def nameOk (s : ByteArray) : Bool := letFrom s 0 && (decide (1 ≤ (s.size : Int)) && decide ((s.size : Int) ≤ 3))

theorem c_l2Name (s : ByteArray) (hs : s.size ≤ maxLen) : CallsV Tryz.prog 150 [.one (.g (.string s))] [] (pureQ (bS (nameOk s))) := by
  refine pure_walk hTb Tryz.func150 rfl rfl Tryz.ntmps150 (by simp) ?_
  (conv => whnf); repeat' (first | (refine And.intro ?_ ?_ <;> ((try intro h) <;> (try simp only [Bool.not_true, Bool.not_false] at h) <;> first | exact absurd h Bool.false_ne_true | exact absurd h.symm Bool.false_ne_true | conv => whnf)) | (refine Need.mk ?_; kernel_rfl) | (refine Need.mk ⟨rfl, ?_⟩; decide))
  refine VL.loopI hTb (fun i => i ≤ s.size ∧ letFrom s 0 = letFrom s i) (fun i => ⟨[(0, .one (.g (.string s))), (3, iS i)], [], []⟩) (fun i => s.size - i) 0 ⟨Nat.zero_le _, rfl⟩
    (wk_to [] rfl rfl rfl ⟨rfl, rfl, trivial⟩ trivial) (fun i hi => ?_)
  obtain ⟨hi, hf⟩ := hi
  (conv => whnf); repeat' (first | (refine And.intro ?_ ?_ <;> ((try intro h) <;> (try simp only [Bool.not_true, Bool.not_false] at h) <;> first | exact absurd h Bool.false_ne_true | exact absurd h.symm Bool.false_ne_true | conv => whnf)) | (refine Need.mk ?_; kernel_rfl) | (refine Need.mk ⟨rfl, ?_⟩; decide))
  set_option linter.unusedSimpArgs false in
  all_goals (try simp only [Int.toNat_natCast, decide_eq_true_eq, decide_eq_false_iff_not, bne_iff_ne, bne_eq_false_iff_eq, beq_iff_eq, beq_eq_false_iff_ne, ne_eq, Int.ofNat_lt, Bool.not_true, Bool.not_false, Bool.not_eq_true, Bool.true_eq_false, Bool.false_eq_true, reduceCtorEq] at *)
  all_goals first
    | (refine Need.mk ?_; omega)
    | (refine ⟨i + 1, ⟨by omega, ?_⟩, by omega, wk_to [] rfl rfl rfl ⟨rfl, congrArg (fun x => Slot.one (.g (.int .i64 x))) (wrap64' (by omega)), trivial⟩ trivial⟩; rw [hf, letFrom_step (by omega), show letByte (sgetI s i) = true from decide_eq_true (by omega), Bool.true_and]; done)
    | (simp only [bS, nameOk, hf]; rw [letFrom_step (by omega), show letByte (sgetI s i) = false from decide_eq_false (by omega), Bool.false_and, Bool.false_and]; done)
    | (simp only [bS, nameOk, hf]; rw [letFrom_end (by omega), Bool.true_and]; simp_all; done)
    | (simp only [bS, nameOk, hf]; rw [letFrom_end (by omega), Bool.true_and]; simp_all; intros; omega)

theorem c_isName (s : ByteArray) (hs : s.size ≤ maxLen) : CallsV Tryz.prog 95 [.one (.g (.string s))] [] (pureQ (bS (nameOk s))) := by
  refine pure_walk hTb Tryz.func95 rfl rfl Tryz.ntmps95 (by simp) ?_
  (conv => whnf); repeat' (first | (refine And.intro ?_ ?_ <;> ((try intro h) <;> (try simp only [Bool.not_true, Bool.not_false] at h) <;> first | exact absurd h Bool.false_ne_true | exact absurd h.symm Bool.false_ne_true | conv => whnf)) | (refine Need.mk ?_; kernel_rfl) | (refine Need.mk ⟨rfl, ?_⟩; decide))
  refine VL.loopI hTb (fun i => i ≤ s.size ∧ letFrom s 0 = letFrom s i) (fun i => ⟨[(0, .one (.g (.string s))), (5, iS s.size), (6, iS i)], [], []⟩) (fun i => s.size - i) 0 ⟨Nat.zero_le _, rfl⟩
    (wk_to [] rfl rfl rfl ⟨rfl, rfl, rfl, trivial⟩ trivial) (fun i hi => ?_)
  obtain ⟨hi, hf⟩ := hi
  (conv => whnf); repeat' (first
    | (refine And.intro ?_ ?_ <;> ((try intro h) <;> (try simp only [Bool.not_true, Bool.not_false] at h) <;> first | exact absurd h Bool.false_ne_true | exact absurd h.symm Bool.false_ne_true | conv => whnf))
    | (refine VL.drawS hTb hMix (by kernel_rfl) (by kernel_rfl) (by kernel_rfl) ?_; conv => whnf)
    | (refine Need.mk ?_; kernel_rfl) | (refine Need.mk ⟨rfl, ?_⟩; decide)
    | (refine VR.pure hTb rfl rfl (o_purN (c_in _ _ _) rfl rfl rfl ⟨rfl, rfl, rfl, rfl⟩ rfl) ?_; conv => whnf)
    | (refine DT.pure hTb rfl (o_purN (c_in _ _ _) rfl rfl rfl ⟨rfl, rfl, rfl, rfl⟩ rfl) ?_; conv => whnf))
  set_option linter.unusedSimpArgs false in
  all_goals (try simp only [Int.toNat_natCast, decide_eq_true_eq, decide_eq_false_iff_not, bne_iff_ne, bne_eq_false_iff_eq, beq_iff_eq, beq_eq_false_iff_ne, ne_eq, Int.ofNat_lt, Bool.not_true, Bool.not_false, Bool.not_eq_true, Bool.true_eq_false, Bool.false_eq_true, reduceCtorEq] at *)
  all_goals first
    | (refine Need.mk ?_; omega)
    | (refine ⟨i + 1, ⟨by omega, ?_⟩, by omega, wk_to [] rfl rfl rfl ⟨rfl, rfl, congrArg (fun x => Slot.one (.g (.int .i64 x))) (wrap64' (by omega)), trivial⟩ trivial⟩; rw [hf, letFrom_step (by omega), show letByte (sgetI s i) = true from decide_eq_true (by omega), Bool.true_and]; done)
    | (simp only [bS, nameOk, hf]; rw [letFrom_step (by omega), show letByte (sgetI s i) = false from decide_eq_false (by omega), Bool.false_and, Bool.false_and]; done)
    | (simp only [bS, nameOk, hf]; rw [letFrom_end (by omega), Bool.true_and]; done)

theorem c_fits (v : Val) (n : Int) : CallsV Tryz.prog 144 [.agg (encVal v), iS n] [] (pureQ (bS (v.k == 0 || v.k == n))) := by
  refine pure_walk hTb Tryz.func144 rfl rfl Tryz.ntmps144 (by simp) ?_
  (conv => whnf); repeat' (first | (refine And.intro ?_ ?_ <;> ((try intro h) <;> (try simp only [Bool.not_true, Bool.not_false] at h) <;> first | exact absurd h Bool.false_ne_true | exact absurd h.symm Bool.false_ne_true | conv => whnf)) | (refine Need.mk ?_; kernel_rfl) | (refine Need.mk ⟨rfl, ?_⟩; decide))
  all_goals simp_all [bS]

def colOk (c : Col) : Bool := nameOk c.name && (c.kind == 1 || c.kind == 2) && valOk c.d && (c.d.k == 0 || c.d.k == c.kind) && (!c.once || c.d.k == 0)

theorem c_specColOk (c : Col) (hc : c.ok) : CallsV Tryz.prog 147 [.agg (encCol c)] [] (pureQ (bS (colOk c))) := by
  refine pure_walk hTb Tryz.func147 rfl rfl Tryz.ntmps147 (by simp) ?_
  (conv => whnf); repeat' (first
    | (refine And.intro ?_ ?_ <;> ((try intro h) <;> (try simp only [Bool.not_true, Bool.not_false] at h) <;> first | exact absurd h Bool.false_ne_true | exact absurd h.symm Bool.false_ne_true | conv => whnf))
    | (refine VL.drawS hTb hMix (by kernel_rfl) (by kernel_rfl) (by kernel_rfl) ?_; conv => whnf)
    | (refine Need.mk ?_; kernel_rfl) | (refine Need.mk ⟨rfl, ?_⟩; decide)
    | (refine VR.pure hTb rfl rfl (o_purN (c_l2Name _ hc.1) rfl rfl rfl ⟨rfl, rfl, rfl, rfl⟩ rfl) ?_; conv => whnf)
    | (refine DT.pure hTb rfl (o_purN (c_l2Name _ hc.1) rfl rfl rfl ⟨rfl, rfl, rfl, rfl⟩ rfl) ?_; conv => whnf)
    | (refine VR.pure hTb rfl rfl (o_purN (c_specValOk c.d hc.2) rfl rfl rfl ⟨rfl, rfl, rfl, rfl⟩ rfl) ?_; conv => whnf)
    | (refine DT.pure hTb rfl (o_purN (c_specValOk c.d hc.2) rfl rfl rfl ⟨rfl, rfl, rfl, rfl⟩ rfl) ?_; conv => whnf))
  set_option linter.unusedSimpArgs false in
  all_goals (try simp only [Int.toNat_natCast, decide_eq_true_eq, decide_eq_false_iff_not, bne_iff_ne, bne_eq_false_iff_eq, beq_iff_eq, beq_eq_false_iff_ne, ne_eq, Int.ofNat_lt, Bool.not_true, Bool.not_false, Bool.not_eq_true, Bool.true_eq_false, Bool.false_eq_true, reduceCtorEq] at *)
  all_goals simp_all [bS, colOk]

theorem c_implColOk (c : Col) (hc : c.ok) : CallsV Tryz.prog 86 [.agg (encCol c)] [] (pureQ (bS (colOk c))) := by
  refine pure_walk hTb Tryz.func86 rfl rfl Tryz.ntmps86 (by simp) ?_
  (conv => whnf); repeat' (first
    | (refine And.intro ?_ ?_ <;> ((try intro h) <;> (try simp only [Bool.not_true, Bool.not_false] at h) <;> first | exact absurd h Bool.false_ne_true | exact absurd h.symm Bool.false_ne_true | conv => whnf))
    | (refine VL.drawS hTb hMix (by kernel_rfl) (by kernel_rfl) (by kernel_rfl) ?_; conv => whnf)
    | (refine Need.mk ?_; kernel_rfl) | (refine Need.mk ⟨rfl, ?_⟩; decide)
    | (refine VR.pure hTb rfl rfl (o_purN (c_isName _ hc.1) rfl rfl rfl ⟨rfl, rfl, rfl, rfl⟩ rfl) ?_; conv => whnf)
    | (refine DT.pure hTb rfl (o_purN (c_isName _ hc.1) rfl rfl rfl ⟨rfl, rfl, rfl, rfl⟩ rfl) ?_; conv => whnf)
    | (refine VR.pure hTb rfl rfl (o_purN (c_in _ _ _) rfl rfl rfl ⟨rfl, rfl, rfl, rfl⟩ rfl) ?_; conv => whnf)
    | (refine DT.pure hTb rfl (o_purN (c_in _ _ _) rfl rfl rfl ⟨rfl, rfl, rfl, rfl⟩ rfl) ?_; conv => whnf)
    | (refine VR.pure hTb rfl rfl (o_purN (c_implValOk c.d hc.2) rfl rfl rfl ⟨rfl, rfl, rfl, rfl⟩ rfl) ?_; conv => whnf)
    | (refine DT.pure hTb rfl (o_purN (c_implValOk c.d hc.2) rfl rfl rfl ⟨rfl, rfl, rfl, rfl⟩ rfl) ?_; conv => whnf)
    | (refine VR.pure hTb rfl rfl (o_purN (c_fits c.d _) rfl rfl rfl ⟨rfl, rfl, rfl, rfl⟩ rfl) ?_; conv => whnf)
    | (refine DT.pure hTb rfl (o_purN (c_fits c.d _) rfl rfl rfl ⟨rfl, rfl, rfl, rfl⟩ rfl) ?_; conv => whnf))
  set_option linter.unusedSimpArgs false in
  all_goals (try simp only [Int.toNat_natCast, decide_eq_true_eq, decide_eq_false_iff_not, bne_iff_ne, bne_eq_false_iff_eq, beq_iff_eq, beq_eq_false_iff_ne, ne_eq, Int.ofNat_lt, Bool.not_true, Bool.not_false, Bool.not_eq_true, Bool.true_eq_false, Bool.false_eq_true, reduceCtorEq] at *)
  all_goals (have e : (decide (1 ≤ c.kind) && decide (c.kind ≤ 2)) = (c.kind == 1 || c.kind == 2) := by
               rw [Bool.eq_iff_iff]; simp; omega)
  all_goals (simp only [e] at *)
  all_goals simp_all [bS, colOk]

end Go.Vl

namespace Go.Vl
open Go Go.RowKit Go.Proofs
def Val.ok (v : Val) : Prop := v.t.size ≤ maxLen
def Val.sm (_ : Val) : Prop := True
theorem rowVal {l : List Val} {i : Nat} (h : i < l.length) : (l.map encVal)[((i : Nat) : Int).toNat]? = some (encVal l[i]) := by rw [Int.toNat_natCast, List.getElem?_map, List.getElem?_eq_getElem h]; rfl
def Col.sm (v : Col) : Prop := v.d.sm
theorem rowCol {l : List Col} {i : Nat} (h : i < l.length) : (l.map encCol)[((i : Nat) : Int).toNat]? = some (encCol l[i]) := by rw [Int.toNat_natCast, List.getElem?_map, List.getElem?_eq_getElem h]; rfl
structure Change where
  kind : Int
  name : ByteArray
  new : ByteArray
  col : Col
def encChange : Change → List Leaf
  | ⟨kind, name, new, ⟨col_name, col_kind, col_need, col_once, ⟨col_d_k, col_d_n, col_d_t⟩⟩⟩ => [.g (.int .i64 kind), .g (.string name), .g (.string new), .g (.string col_name), .g (.int .i64 col_kind), .g (.bool col_need), .g (.bool col_once), .g (.int .i64 col_d_k), .g (.int .i64 col_d_n), .g (.string col_d_t)]
def Change.ok (v : Change) : Prop := v.name.size ≤ maxLen ∧ v.new.size ≤ maxLen ∧ v.col.ok
def Change.sm (v : Change) : Prop := v.col.sm
abbrev changesI (l : List Change) : Slot := .one (.imm 10 (l.map encChange))
theorem rowChange {l : List Change} {i : Nat} (h : i < l.length) : (l.map encChange)[((i : Nat) : Int).toNat]? = some (encChange l[i]) := by rw [Int.toNat_natCast, List.getElem?_map, List.getElem?_eq_getElem h]; rfl
structure VRow where
  id : Int
  ver : Int
  vals : List Val
def encVRow : VRow → List Leaf
  | ⟨id, ver, vals⟩ => [.g (.int .i64 id), .g (.int .i64 ver), .imm 3 (vals.map encVal)]
def VRow.ok (v : VRow) : Prop := (v.vals.length ≤ maxLen ∧ ∀ x ∈ v.vals, x.ok)
def VRow.sm (v : VRow) : Prop := (v.vals.length ≤ 1048576 ∧ ∀ x ∈ v.vals, x.sm)
abbrev vrowsI (l : List VRow) : Slot := .one (.imm 3 (l.map encVRow))
theorem rowVRow {l : List VRow} {i : Nat} (h : i < l.length) : (l.map encVRow)[((i : Nat) : Int).toNat]? = some (encVRow l[i]) := by rw [Int.toNat_natCast, List.getElem?_map, List.getElem?_eq_getElem h]; rfl
structure VTable where
  first : List Col
  changes : List Change
  rows : List VRow
  next : Int
def encVTable : VTable → List Leaf
  | ⟨first, changes, rows, next⟩ => [.imm 7 (first.map encCol), .imm 10 (changes.map encChange), .imm 3 (rows.map encVRow), .g (.int .i64 next)]
def VTable.ok (v : VTable) : Prop := (v.first.length ≤ maxLen ∧ ∀ x ∈ v.first, x.ok) ∧ (v.changes.length ≤ maxLen ∧ ∀ x ∈ v.changes, x.ok) ∧ (v.rows.length ≤ maxLen ∧ ∀ x ∈ v.rows, x.ok)
def VTable.sm (v : VTable) : Prop := (v.first.length ≤ 1048576 ∧ ∀ x ∈ v.first, x.sm) ∧ (v.changes.length ≤ 1048576 ∧ ∀ x ∈ v.changes, x.sm) ∧ (v.rows.length ≤ 1048576 ∧ ∀ x ∈ v.rows, x.sm)
structure VSet where
  name : ByteArray
  val : Val
def VSet.ok (v : VSet) : Prop := v.name.size ≤ maxLen ∧ v.val.ok
def VSet.sm (v : VSet) : Prop := v.val.sm
structure VLink where
  src : ByteArray
  col : ByteArray
  dst : ByteArray
  how : Int
def encVLink : VLink → List Leaf
  | ⟨src, col, dst, how⟩ => [.g (.string src), .g (.string col), .g (.string dst), .g (.int .i64 how)]
def VLink.ok (v : VLink) : Prop := v.src.size ≤ maxLen ∧ v.col.size ≤ maxLen ∧ v.dst.size ≤ maxLen
def VLink.sm (_ : VLink) : Prop := True
abbrev vlinksI (l : List VLink) : Slot := .one (.imm 4 (l.map encVLink))
theorem rowVLink {l : List VLink} {i : Nat} (h : i < l.length) : (l.map encVLink)[((i : Nat) : Int).toNat]? = some (encVLink l[i]) := by rw [Int.toNat_natCast, List.getElem?_map, List.getElem?_eq_getElem h]; rfl
structure VTab where
  name : ByteArray
  table : VTable
def encVTab : VTab → List Leaf
  | ⟨name, ⟨table_first, table_changes, table_rows, table_next⟩⟩ => [.g (.string name), .imm 7 (table_first.map encCol), .imm 10 (table_changes.map encChange), .imm 3 (table_rows.map encVRow), .g (.int .i64 table_next)]
def VTab.ok (v : VTab) : Prop := v.name.size ≤ maxLen ∧ v.table.ok
def VTab.sm (v : VTab) : Prop := v.table.sm
abbrev vtabsI (l : List VTab) : Slot := .one (.imm 5 (l.map encVTab))
theorem rowVTab {l : List VTab} {i : Nat} (h : i < l.length) : (l.map encVTab)[((i : Nat) : Int).toNat]? = some (encVTab l[i]) := by rw [Int.toNat_natCast, List.getElem?_map, List.getElem?_eq_getElem h]; rfl
structure VBase where
  tabs : List VTab
  links : List VLink
def encVBase : VBase → List Leaf
  | ⟨tabs, links⟩ => [.imm 5 (tabs.map encVTab), .imm 4 (links.map encVLink)]
def VBase.ok (v : VBase) : Prop := (v.tabs.length ≤ maxLen ∧ ∀ x ∈ v.tabs, x.ok) ∧ (v.links.length ≤ maxLen ∧ ∀ x ∈ v.links, x.ok)
def VBase.sm (v : VBase) : Prop := (v.tabs.length ≤ 1048576 ∧ ∀ x ∈ v.tabs, x.sm) ∧ (v.links.length ≤ 1048576 ∧ ∀ x ∈ v.links, x.sm)
structure VRef where
  name : ByteArray
  id : Int
def encVRef : VRef → List Leaf
  | ⟨name, id⟩ => [.g (.string name), .g (.int .i64 id)]
def VRef.ok (v : VRef) : Prop := v.name.size ≤ maxLen
def VRef.sm (_ : VRef) : Prop := True
abbrev vrefsI (l : List VRef) : Slot := .one (.imm 2 (l.map encVRef))
theorem rowVRef {l : List VRef} {i : Nat} (h : i < l.length) : (l.map encVRef)[((i : Nat) : Int).toNat]? = some (encVRef l[i]) := by rw [Int.toNat_natCast, List.getElem?_map, List.getElem?_eq_getElem h]; rfl
structure VAct where
  kind : Int
  name : ByteArray
  id : Int
  sets : List VSet
  cols : List Col
  change : Change
  link : VLink
def VAct.ok (v : VAct) : Prop := v.name.size ≤ maxLen ∧ (v.sets.length ≤ maxLen ∧ ∀ x ∈ v.sets, x.ok) ∧ (v.cols.length ≤ maxLen ∧ ∀ x ∈ v.cols, x.ok) ∧ v.change.ok ∧ v.link.ok
def VAct.sm (v : VAct) : Prop := (v.sets.length ≤ 1048576 ∧ ∀ x ∈ v.sets, x.sm) ∧ (v.cols.length ≤ 1048576 ∧ ∀ x ∈ v.cols, x.sm) ∧ v.change.sm ∧ v.link.sm
end Go.Vl
