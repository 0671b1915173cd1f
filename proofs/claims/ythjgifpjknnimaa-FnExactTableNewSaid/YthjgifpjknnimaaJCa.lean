/- Contracts: values' order and size. Contracts: a value's soundness. Contracts: the reader of a code, what it draws. Contracts: what the reader draws: texts, numbers, values. Contracts: columns. The data of the laws: types, how they lie as leaves. Printed by our own gends.py. When two things are one; contracts of what asks so. Printed by our own genq.py. Contracts: shapes alike. Contracts: shapes: where a name stands, soundness. Contracts: what the reader draws: columns, shapes. Contracts: what the reader draws: rows; drawn cases of the laws on columns and rows. Contracts: the drawn cases of the laws on columns and rows. The law on where a name stands in a shape: what its function computes. Contracts: rows of values: how great, turned, alike, sound; the law on a row. Plain laws: names among columns. Laws: columns are found by name. Contracts: copies of lists, things taken out of them. -/
import Derived.Test.YthjgifpjknnimaaTab
import Derived.Test.YthjgifpjknnimaaWg
import Derived.Test.YthjgifpjknnimaaWi
set_option linter.unusedSimpArgs false
set_option linter.unusedVariables false

namespace Go.Vl
open Go Go.RowKit Go.Proofs

structure Val where
  k : Int
  n : Int
  t : ByteArray
def encVal : Val → List Leaf
  | ⟨k, n, t⟩ => [.g (.int .i64 k), .g (.int .i64 n), .g (.string t)]
def bS (b : Bool) : Slot := .one (.g (.bool b))
def iS (n : Int) : Slot := .one (.g (.int .i64 n))
set_option maxRecDepth 100000
set_option linter.unusedSimpArgs false
set_option linter.unusedVariables false
set_option maxHeartbeats 400000

end Go.Vl

namespace Go.Vl
open Go Go.RowKit Go.Proofs
set_option maxRecDepth 100000
set_option linter.unusedSimpArgs false
set_option linter.unusedVariables false
set_option maxHeartbeats 400000

def strS (s : ByteArray) : Slot := .one (.g (.string s))
theorem c_in (n lo hi : Int) : CallsV Try.prog 32 [iS n, iS lo, iS hi] [] (pureQ (bS (decide (lo ≤ n) && decide (n ≤ hi)))) := by
  refine pure_walk hTb Try.func32 rfl rfl Try.ntmps32 (by simp) ?_
  (conv => whnf); repeat' (first | (refine And.intro ?_ ?_ <;> ((try intro h) <;> (try simp only [Bool.not_true, Bool.not_false] at h) <;> first | exact absurd h Bool.false_ne_true | exact absurd h.symm Bool.false_ne_true | conv => whnf)) | (refine Need.mk ?_; kernel_rfl) | (refine Need.mk ⟨rfl, ?_⟩; decide))
  all_goals (simp_all [bS])
  all_goals (try (intro; omega))

theorem c_l1Num (n : Int) : CallsV Try.prog 76 [iS n] [] (pureQ (bS (decide (-999 ≤ n) && decide (n ≤ 999)))) := by
  refine pure_walk hTb Try.func76 rfl rfl Try.ntmps76 (by simp) ?_
  (conv => whnf); repeat' (first | (refine And.intro ?_ ?_ <;> ((try intro h) <;> (try simp only [Bool.not_true, Bool.not_false] at h) <;> first | exact absurd h Bool.false_ne_true | exact absurd h.symm Bool.false_ne_true | conv => whnf)) | (refine Need.mk ?_; kernel_rfl) | (refine Need.mk ⟨rfl, ?_⟩; decide))
  all_goals (simp_all [bS])
  all_goals (try (intro; omega))

/-- A byte that a text may hold. -/
def okByte (c : Int) : Bool := decide ((97 ≤ c ∧ c ≤ 122) ∨ (48 ≤ c ∧ c ≤ 57) ∨ c = 45)
/-- The bytes from the i-th on are such. -/
def okFrom (s : ByteArray) (i : Nat) : Bool := (List.range' i (s.size - i)).all fun j => okByte (sgetI s j)
theorem okFrom_step {s : ByteArray} {i : Nat} (h : i < s.size) : okFrom s i = (okByte (sgetI s i) && okFrom s (i + 1)) := by
  unfold okFrom
  rw [show s.size - i = (s.size - (i + 1)) + 1 by omega, List.range'_succ, List.all_cons]
theorem okFrom_end {s : ByteArray} {i : Nat} (h : s.size ≤ i) : okFrom s i = true := by
  unfold okFrom
  rw [show s.size - i = 0 by omega]; rfl
def textOk (s : ByteArray) : Bool := okFrom s 0 && decide ((s.size : Int) ≤ 4)

theorem wrap64' {n : Nat} (h : n + 1 ≤ maxLen) : IntKind.i64.wrap ((n : Int) + 1) = ((n + 1 : Nat) : Int) := by
  rw [IntKind.wrap_i64]; unfold maxLen at h; omega

theorem c_l1Text (s : ByteArray) (hs : s.size ≤ maxLen) : CallsV Try.prog 77 [.one (.g (.string s))] [] (pureQ (bS (textOk s))) := by
  refine pure_walk hTb Try.func77 rfl rfl Try.ntmps77 (by simp) ?_
  (conv => whnf); repeat' (first | (refine And.intro ?_ ?_ <;> ((try intro h) <;> (try simp only [Bool.not_true, Bool.not_false] at h) <;> first | exact absurd h Bool.false_ne_true | exact absurd h.symm Bool.false_ne_true | conv => whnf)) | (refine Need.mk ?_; kernel_rfl) | (refine Need.mk ⟨rfl, ?_⟩; decide))
  refine VL.loopI hTb (fun i => i ≤ s.size ∧ okFrom s 0 = okFrom s i) (fun i => ⟨[(0, .one (.g (.string s))), (3, iS i)], [], []⟩) (fun i => s.size - i) 0 ⟨Nat.zero_le _, rfl⟩
    (wk_to [] rfl rfl rfl ⟨rfl, rfl, trivial⟩ trivial) (fun i hi => ?_)
  obtain ⟨hi, hf⟩ := hi
  (conv => whnf); repeat' (first | (refine And.intro ?_ ?_ <;> ((try intro h) <;> (try simp only [Bool.not_true, Bool.not_false] at h) <;> first | exact absurd h Bool.false_ne_true | exact absurd h.symm Bool.false_ne_true | conv => whnf)) | (refine Need.mk ?_; kernel_rfl) | (refine Need.mk ⟨rfl, ?_⟩; decide))
  set_option linter.unusedSimpArgs false in
  all_goals (try simp only [Int.toNat_natCast, decide_eq_true_eq, decide_eq_false_iff_not, bne_iff_ne, bne_eq_false_iff_eq, beq_iff_eq, beq_eq_false_iff_ne, ne_eq, Int.ofNat_lt, Bool.not_true, Bool.not_false, Bool.not_eq_true, Bool.true_eq_false, Bool.false_eq_true, reduceCtorEq] at *)
  all_goals first
    | (refine Need.mk ?_; omega)
    | (refine ⟨i + 1, ⟨by omega, ?_⟩, by omega, wk_to [] rfl rfl rfl ⟨rfl, congrArg (fun x => Slot.one (.g (.int .i64 x))) (wrap64' (by omega)), trivial⟩ trivial⟩; rw [hf, okFrom_step (by omega), show okByte (sgetI s i) = true from decide_eq_true (by omega), Bool.true_and]; done)
    | (simp only [bS, textOk, hf]; rw [okFrom_step (by omega), show okByte (sgetI s i) = false from decide_eq_false (by omega), Bool.false_and, Bool.false_and]; done)
    | (simp only [bS, textOk, hf]; rw [okFrom_end (by omega), Bool.true_and]; done)

def valOk (v : Val) : Bool :=
  if v.k = 0 then v.n == 0 && v.t.toList == [] else if v.k = 1 then (decide (-999 ≤ v.n) && decide (v.n ≤ 999)) && v.t.toList == [] else if v.k = 2 then v.n == 0 && textOk v.t else false

theorem emptyList : (⟨#[]⟩ : ByteArray).toList = [] := by rw [ByteArray.toList_eq]

theorem c_specValOk (v : Val) (hv : v.t.size ≤ maxLen) : CallsV Try.prog 57 [.agg (encVal v)] [] (pureQ (bS (valOk v))) := by
  refine pure_walk hTb Try.func57 rfl rfl Try.ntmps57 (by simp) ?_
  (conv => whnf); repeat' (first
    | (refine And.intro ?_ ?_ <;> ((try intro h) <;> (try simp only [Bool.not_true, Bool.not_false] at h) <;> first | exact absurd h Bool.false_ne_true | exact absurd h.symm Bool.false_ne_true | conv => whnf))
    | (refine VL.drawS hTb hMix (by kernel_rfl) (by kernel_rfl) (by kernel_rfl) ?_; conv => whnf)
    | (refine Need.mk ?_; kernel_rfl) | (refine Need.mk ⟨rfl, ?_⟩; decide)
    | (refine VR.pure hTb rfl rfl (o_purN (c_l1Num _) rfl rfl rfl ⟨rfl, rfl, rfl, rfl⟩ rfl) ?_; conv => whnf)
    | (refine DT.pure hTb rfl (o_purN (c_l1Num _) rfl rfl rfl ⟨rfl, rfl, rfl, rfl⟩ rfl) ?_; conv => whnf)
    | (refine VR.pure hTb rfl rfl (o_purN (c_l1Text _ hv) rfl rfl rfl ⟨rfl, rfl, rfl, rfl⟩ rfl) ?_; conv => whnf)
    | (refine DT.pure hTb rfl (o_purN (c_l1Text _ hv) rfl rfl rfl ⟨rfl, rfl, rfl, rfl⟩ rfl) ?_; conv => whnf))
  set_option linter.unusedSimpArgs false in
  all_goals (try simp only [Int.toNat_natCast, decide_eq_true_eq, decide_eq_false_iff_not, bne_iff_ne, bne_eq_false_iff_eq, beq_iff_eq, beq_eq_false_iff_ne, ne_eq, Int.ofNat_lt, Bool.not_true, Bool.not_false, Bool.not_eq_true, Bool.true_eq_false, Bool.false_eq_true, reduceCtorEq] at *)
  all_goals simp_all [valOk, bS, emptyList]

theorem c_implValOk (v : Val) (hv : v.t.size ≤ maxLen) : CallsV Try.prog 60 [.agg (encVal v)] [] (pureQ (bS (valOk v))) := by
  refine pure_walk hTb Try.func60 rfl rfl Try.ntmps60 (by simp) ?_
  (conv => whnf); repeat' (first
    | (refine And.intro ?_ ?_ <;> ((try intro h) <;> (try simp only [Bool.not_true, Bool.not_false] at h) <;> first | exact absurd h Bool.false_ne_true | exact absurd h.symm Bool.false_ne_true | conv => whnf))
    | (refine VL.drawS hTb hMix (by kernel_rfl) (by kernel_rfl) (by kernel_rfl) ?_; conv => whnf)
    | (refine Need.mk ?_; kernel_rfl) | (refine Need.mk ⟨rfl, ?_⟩; decide)
    | (refine VR.pure hTb rfl rfl (o_purN (c_in _ _ _) rfl rfl rfl ⟨rfl, rfl, rfl, rfl⟩ rfl) ?_; conv => whnf)
    | (refine DT.pure hTb rfl (o_purN (c_in _ _ _) rfl rfl rfl ⟨rfl, rfl, rfl, rfl⟩ rfl) ?_; conv => whnf))
  all_goals first
    | (refine VL.loopI hTb (fun i => i ≤ v.t.size ∧ okFrom v.t 0 = okFrom v.t i) (fun i => ⟨[(1, .one (.ptr 101 0)), (26, iS v.t.size), (27, iS i)], [(101, .box (encVal v))], []⟩) (fun i => v.t.size - i) 0 ⟨Nat.zero_le _, rfl⟩
        (wk_to [(101, 101)] rfl rfl rfl ⟨rfl, rfl, rfl, trivial⟩ ⟨rfl, ⟨_, rfl, rfl⟩, trivial⟩) (fun i hi => ?_)
       obtain ⟨hi, hf⟩ := hi
       (conv => whnf); repeat' (first | (refine And.intro ?_ ?_ <;> ((try intro h) <;> (try simp only [Bool.not_true, Bool.not_false] at h) <;> first | exact absurd h Bool.false_ne_true | exact absurd h.symm Bool.false_ne_true | conv => whnf)) | (refine Need.mk ?_; kernel_rfl) | (refine Need.mk ⟨rfl, ?_⟩; decide)))
    | (simp_all [valOk, bS, emptyList]; done)
    | (simp_all [valOk, bS, emptyList]; intros; omega)
  set_option linter.unusedSimpArgs false in
  all_goals (try simp only [Int.toNat_natCast, decide_eq_true_eq, decide_eq_false_iff_not, bne_iff_ne, bne_eq_false_iff_eq, beq_iff_eq, beq_eq_false_iff_ne, ne_eq, Int.ofNat_lt, Bool.not_true, Bool.not_false, Bool.not_eq_true, Bool.true_eq_false, Bool.false_eq_true, reduceCtorEq] at *)
  all_goals first
    | (refine Need.mk ?_; omega)
    | (refine ⟨i + 1, ⟨by omega, ?_⟩, by omega, wk_to [(101, 101)] rfl rfl rfl ⟨rfl, rfl, congrArg (fun x => Slot.one (.g (.int .i64 x))) (wrap64' (by omega)), trivial⟩ ⟨rfl, ⟨_, rfl, rfl⟩, trivial⟩⟩; rw [hf, okFrom_step (by omega), show okByte (sgetI v.t i) = true from decide_eq_true (by omega), Bool.true_and]; done)
    | (have e : textOk v.t = false := by
         simp only [textOk, hf]
         rw [okFrom_step (by omega), show okByte (sgetI v.t i) = false from decide_eq_false (by omega), Bool.false_and, Bool.false_and]
       simp_all [valOk, bS]; done)
    | (have e : textOk v.t = decide ((v.t.size : Int) ≤ 4) := by
         simp only [textOk, hf]
         rw [okFrom_end (by omega), Bool.true_and]
       simp_all [valOk, bS]; done)
end Go.Vl

namespace Go.Vl
open Go Go.RowKit Go.Proofs
set_option maxRecDepth 100000
set_option linter.unusedSimpArgs false
set_option linter.unusedVariables false
set_option maxHeartbeats 1000000

structure BOk (bs : List Int) : Prop where
  b : ∀ x ∈ bs, 0 ≤ x ∧ x < 256
  l : bs.length ≤ 2000
end Go.Vl

namespace Go.Vl
open Go Go.RowKit Go.Proofs
set_option maxRecDepth 100000
set_option linter.unusedSimpArgs false
set_option linter.unusedVariables false
set_option maxHeartbeats 1000000

end Go.Vl

namespace Go.Vl
open Go Go.RowKit Go.Proofs
set_option maxRecDepth 100000
set_option linter.unusedSimpArgs false
set_option linter.unusedVariables false
set_option maxHeartbeats 400000

structure Col where
  name : ByteArray
  kind : Int
  need : Bool
  once : Bool
  d : Val
def encCol : Col → List Leaf
  | ⟨name, kind, need, once, ⟨k, n, t⟩⟩ => [.g (.string name), .g (.int .i64 kind), .g (.bool need), .g (.bool once), .g (.int .i64 k), .g (.int .i64 n), .g (.string t)]
def Col.ok (c : Col) : Prop := c.name.size ≤ maxLen ∧ c.d.t.size ≤ maxLen

def colsI (cs : List Col) : Slot := .one (.imm 7 (cs.map encCol))
def valsI (cs : List Val) : Slot := .one (.imm 3 (cs.map encVal))

def letByte (c : Int) : Bool := decide (97 ≤ c ∧ c ≤ 122)
def letFrom (s : ByteArray) (i : Nat) : Bool := (List.range' i (s.size - i)).all fun j => letByte (sgetI s j)
theorem letFrom_step {s : ByteArray} {i : Nat} (h : i < s.size) : letFrom s i = (letByte (sgetI s i) && letFrom s (i + 1)) := by
  unfold letFrom
  rw [show s.size - i = (s.size - (i + 1)) + 1 by omega, List.range'_succ, List.all_cons]
theorem letFrom_end {s : ByteArray} {i : Nat} (h : s.size ≤ i) : letFrom s i = true := by
  unfold letFrom
  rw [show s.size - i = 0 by omega]; rfl
def nameOk (s : ByteArray) : Bool := letFrom s 0 && (decide (1 ≤ (s.size : Int)) && decide ((s.size : Int) ≤ 3))

theorem c_l2Name (s : ByteArray) (hs : s.size ≤ maxLen) : CallsV Try.prog 23 [.one (.g (.string s))] [] (pureQ (bS (nameOk s))) := by
  refine pure_walk hTb Try.func23 rfl rfl Try.ntmps23 (by simp) ?_
  (conv => whnf); repeat' (first | (refine And.intro ?_ ?_ <;> ((try intro h) <;> (try simp only [Bool.not_true, Bool.not_false] at h) <;> first | exact absurd h Bool.false_ne_true | exact absurd h.symm Bool.false_ne_true | conv => whnf)) | (refine Need.mk ?_; kernel_rfl) | (refine Need.mk ⟨rfl, ?_⟩; decide))
  refine VL.loopI hTb (fun i => i ≤ s.size ∧ letFrom s 0 = letFrom s i) (fun i => ⟨[(0, .one (.g (.string s))), (3, iS i)], [], []⟩) (fun i => s.size - i) 0 ⟨Nat.zero_le _, rfl⟩
    (wk_to [] rfl rfl rfl ⟨rfl, rfl, trivial⟩ trivial) (fun i hi => ?_)
  obtain ⟨hi, hf⟩ := hi
  (conv => whnf); repeat' (first | (refine And.intro ?_ ?_ <;> ((try intro h) <;> (try simp only [Bool.not_true, Bool.not_false] at h) <;> first | exact absurd h Bool.false_ne_true | exact absurd h.symm Bool.false_ne_true | conv => whnf)) | (refine Need.mk ?_; kernel_rfl) | (refine Need.mk ⟨rfl, ?_⟩; decide))
  set_option linter.unusedSimpArgs false in
  all_goals (try simp only [Int.toNat_natCast, decide_eq_true_eq, decide_eq_false_iff_not, bne_iff_ne, bne_eq_false_iff_eq, beq_iff_eq, beq_eq_false_iff_ne, ne_eq, Int.ofNat_lt, Bool.not_true, Bool.not_false, Bool.not_eq_true, Bool.true_eq_false, Bool.false_eq_true, reduceCtorEq] at *)
  all_goals first
    | (refine Need.mk ?_; omega)
    | (refine ⟨i + 1, ⟨by omega, ?_⟩, by omega, wk_to [] rfl rfl rfl ⟨rfl, congrArg (fun x => Slot.one (.g (.int .i64 x))) (wrap64' (by omega)), trivial⟩ trivial⟩; rw [hf, letFrom_step (by omega), show letByte (sgetI s i) = true from decide_eq_true (by omega), Bool.true_and]; done)
    | (simp only [bS, nameOk, hf]; rw [letFrom_step (by omega), show letByte (sgetI s i) = false from decide_eq_false (by omega), Bool.false_and, Bool.false_and]; done)
    | (simp only [bS, nameOk, hf]; rw [letFrom_end (by omega), Bool.true_and]; simp_all; done)
    | (simp only [bS, nameOk, hf]; rw [letFrom_end (by omega), Bool.true_and]; simp_all; intros; omega)

theorem c_isName (s : ByteArray) (hs : s.size ≤ maxLen) : CallsV Try.prog 31 [.one (.g (.string s))] [] (pureQ (bS (nameOk s))) := by
  refine pure_walk hTb Try.func31 rfl rfl Try.ntmps31 (by simp) ?_
  (conv => whnf); repeat' (first | (refine And.intro ?_ ?_ <;> ((try intro h) <;> (try simp only [Bool.not_true, Bool.not_false] at h) <;> first | exact absurd h Bool.false_ne_true | exact absurd h.symm Bool.false_ne_true | conv => whnf)) | (refine Need.mk ?_; kernel_rfl) | (refine Need.mk ⟨rfl, ?_⟩; decide))
  refine VL.loopI hTb (fun i => i ≤ s.size ∧ letFrom s 0 = letFrom s i) (fun i => ⟨[(0, .one (.g (.string s))), (5, iS s.size), (6, iS i)], [], []⟩) (fun i => s.size - i) 0 ⟨Nat.zero_le _, rfl⟩
    (wk_to [] rfl rfl rfl ⟨rfl, rfl, rfl, trivial⟩ trivial) (fun i hi => ?_)
  obtain ⟨hi, hf⟩ := hi
  (conv => whnf); repeat' (first
    | (refine And.intro ?_ ?_ <;> ((try intro h) <;> (try simp only [Bool.not_true, Bool.not_false] at h) <;> first | exact absurd h Bool.false_ne_true | exact absurd h.symm Bool.false_ne_true | conv => whnf))
    | (refine VL.drawS hTb hMix (by kernel_rfl) (by kernel_rfl) (by kernel_rfl) ?_; conv => whnf)
    | (refine Need.mk ?_; kernel_rfl) | (refine Need.mk ⟨rfl, ?_⟩; decide)
    | (refine VR.pure hTb rfl rfl (o_purN (c_in _ _ _) rfl rfl rfl ⟨rfl, rfl, rfl, rfl⟩ rfl) ?_; conv => whnf)
    | (refine DT.pure hTb rfl (o_purN (c_in _ _ _) rfl rfl rfl ⟨rfl, rfl, rfl, rfl⟩ rfl) ?_; conv => whnf))
  set_option linter.unusedSimpArgs false in
  all_goals (try simp only [Int.toNat_natCast, decide_eq_true_eq, decide_eq_false_iff_not, bne_iff_ne, bne_eq_false_iff_eq, beq_iff_eq, beq_eq_false_iff_ne, ne_eq, Int.ofNat_lt, Bool.not_true, Bool.not_false, Bool.not_eq_true, Bool.true_eq_false, Bool.false_eq_true, reduceCtorEq] at *)
  all_goals first
    | (refine Need.mk ?_; omega)
    | (refine ⟨i + 1, ⟨by omega, ?_⟩, by omega, wk_to [] rfl rfl rfl ⟨rfl, rfl, congrArg (fun x => Slot.one (.g (.int .i64 x))) (wrap64' (by omega)), trivial⟩ trivial⟩; rw [hf, letFrom_step (by omega), show letByte (sgetI s i) = true from decide_eq_true (by omega), Bool.true_and]; done)
    | (simp only [bS, nameOk, hf]; rw [letFrom_step (by omega), show letByte (sgetI s i) = false from decide_eq_false (by omega), Bool.false_and, Bool.false_and]; done)
    | (simp only [bS, nameOk, hf]; rw [letFrom_end (by omega), Bool.true_and]; done)

theorem c_fits (v : Val) (n : Int) : CallsV Try.prog 61 [.agg (encVal v), iS n] [] (pureQ (bS (v.k == 0 || v.k == n))) := by
  refine pure_walk hTb Try.func61 rfl rfl Try.ntmps61 (by simp) ?_
  (conv => whnf); repeat' (first | (refine And.intro ?_ ?_ <;> ((try intro h) <;> (try simp only [Bool.not_true, Bool.not_false] at h) <;> first | exact absurd h Bool.false_ne_true | exact absurd h.symm Bool.false_ne_true | conv => whnf)) | (refine Need.mk ?_; kernel_rfl) | (refine Need.mk ⟨rfl, ?_⟩; decide))
  all_goals simp_all [bS]

def colOk (c : Col) : Bool := nameOk c.name && (c.kind == 1 || c.kind == 2) && valOk c.d && (c.d.k == 0 || c.d.k == c.kind) && (!c.once || c.d.k == 0)

theorem c_specColOk (c : Col) (hc : c.ok) : CallsV Try.prog 56 [.agg (encCol c)] [] (pureQ (bS (colOk c))) := by
  refine pure_walk hTb Try.func56 rfl rfl Try.ntmps56 (by simp) ?_
  (conv => whnf); repeat' (first
    | (refine And.intro ?_ ?_ <;> ((try intro h) <;> (try simp only [Bool.not_true, Bool.not_false] at h) <;> first | exact absurd h Bool.false_ne_true | exact absurd h.symm Bool.false_ne_true | conv => whnf))
    | (refine VL.drawS hTb hMix (by kernel_rfl) (by kernel_rfl) (by kernel_rfl) ?_; conv => whnf)
    | (refine Need.mk ?_; kernel_rfl) | (refine Need.mk ⟨rfl, ?_⟩; decide)
    | (refine VR.pure hTb rfl rfl (o_purN (c_l2Name _ hc.1) rfl rfl rfl ⟨rfl, rfl, rfl, rfl⟩ rfl) ?_; conv => whnf)
    | (refine DT.pure hTb rfl (o_purN (c_l2Name _ hc.1) rfl rfl rfl ⟨rfl, rfl, rfl, rfl⟩ rfl) ?_; conv => whnf)
    | (refine VR.pure hTb rfl rfl (o_purN (c_specValOk c.d hc.2) rfl rfl rfl ⟨rfl, rfl, rfl, rfl⟩ rfl) ?_; conv => whnf)
    | (refine DT.pure hTb rfl (o_purN (c_specValOk c.d hc.2) rfl rfl rfl ⟨rfl, rfl, rfl, rfl⟩ rfl) ?_; conv => whnf))
  set_option linter.unusedSimpArgs false in
  all_goals (try simp only [Int.toNat_natCast, decide_eq_true_eq, decide_eq_false_iff_not, bne_iff_ne, bne_eq_false_iff_eq, beq_iff_eq, beq_eq_false_iff_ne, ne_eq, Int.ofNat_lt, Bool.not_true, Bool.not_false, Bool.not_eq_true, Bool.true_eq_false, Bool.false_eq_true, reduceCtorEq] at *)
  all_goals simp_all [bS, colOk]

theorem c_implColOk (c : Col) (hc : c.ok) : CallsV Try.prog 35 [.agg (encCol c)] [] (pureQ (bS (colOk c))) := by
  refine pure_walk hTb Try.func35 rfl rfl Try.ntmps35 (by simp) ?_
  (conv => whnf); repeat' (first
    | (refine And.intro ?_ ?_ <;> ((try intro h) <;> (try simp only [Bool.not_true, Bool.not_false] at h) <;> first | exact absurd h Bool.false_ne_true | exact absurd h.symm Bool.false_ne_true | conv => whnf))
    | (refine VL.drawS hTb hMix (by kernel_rfl) (by kernel_rfl) (by kernel_rfl) ?_; conv => whnf)
    | (refine Need.mk ?_; kernel_rfl) | (refine Need.mk ⟨rfl, ?_⟩; decide)
    | (refine VR.pure hTb rfl rfl (o_purN (c_isName _ hc.1) rfl rfl rfl ⟨rfl, rfl, rfl, rfl⟩ rfl) ?_; conv => whnf)
    | (refine DT.pure hTb rfl (o_purN (c_isName _ hc.1) rfl rfl rfl ⟨rfl, rfl, rfl, rfl⟩ rfl) ?_; conv => whnf)
    | (refine VR.pure hTb rfl rfl (o_purN (c_in _ _ _) rfl rfl rfl ⟨rfl, rfl, rfl, rfl⟩ rfl) ?_; conv => whnf)
    | (refine DT.pure hTb rfl (o_purN (c_in _ _ _) rfl rfl rfl ⟨rfl, rfl, rfl, rfl⟩ rfl) ?_; conv => whnf)
    | (refine VR.pure hTb rfl rfl (o_purN (c_implValOk c.d hc.2) rfl rfl rfl ⟨rfl, rfl, rfl, rfl⟩ rfl) ?_; conv => whnf)
    | (refine DT.pure hTb rfl (o_purN (c_implValOk c.d hc.2) rfl rfl rfl ⟨rfl, rfl, rfl, rfl⟩ rfl) ?_; conv => whnf)
    | (refine VR.pure hTb rfl rfl (o_purN (c_fits c.d _) rfl rfl rfl ⟨rfl, rfl, rfl, rfl⟩ rfl) ?_; conv => whnf)
    | (refine DT.pure hTb rfl (o_purN (c_fits c.d _) rfl rfl rfl ⟨rfl, rfl, rfl, rfl⟩ rfl) ?_; conv => whnf))
  set_option linter.unusedSimpArgs false in
  all_goals (try simp only [Int.toNat_natCast, decide_eq_true_eq, decide_eq_false_iff_not, bne_iff_ne, bne_eq_false_iff_eq, beq_iff_eq, beq_eq_false_iff_ne, ne_eq, Int.ofNat_lt, Bool.not_true, Bool.not_false, Bool.not_eq_true, Bool.true_eq_false, Bool.false_eq_true, reduceCtorEq] at *)
  all_goals (have e : (decide (1 ≤ c.kind) && decide (c.kind ≤ 2)) = (c.kind == 1 || c.kind == 2) := by
               rw [Bool.eq_iff_iff]; simp; omega)
  all_goals (simp only [e] at *)
  all_goals simp_all [bS, colOk]

end Go.Vl

namespace Go.Vl
open Go Go.RowKit Go.Proofs
def Val.ok (v : Val) : Prop := v.t.size ≤ maxLen
def Val.sm (_ : Val) : Prop := True
theorem rowVal {l : List Val} {i : Nat} (h : i < l.length) : (l.map encVal)[((i : Nat) : Int).toNat]? = some (encVal l[i]) := by rw [Int.toNat_natCast, List.getElem?_map, List.getElem?_eq_getElem h]; rfl
def Col.sm (v : Col) : Prop := v.d.sm
theorem rowCol {l : List Col} {i : Nat} (h : i < l.length) : (l.map encCol)[((i : Nat) : Int).toNat]? = some (encCol l[i]) := by rw [Int.toNat_natCast, List.getElem?_map, List.getElem?_eq_getElem h]; rfl
structure Change where
  kind : Int
  name : ByteArray
  new : ByteArray
  col : Col
def encChange : Change → List Leaf
  | ⟨kind, name, new, ⟨col_name, col_kind, col_need, col_once, ⟨col_d_k, col_d_n, col_d_t⟩⟩⟩ => [.g (.int .i64 kind), .g (.string name), .g (.string new), .g (.string col_name), .g (.int .i64 col_kind), .g (.bool col_need), .g (.bool col_once), .g (.int .i64 col_d_k), .g (.int .i64 col_d_n), .g (.string col_d_t)]
def Change.ok (v : Change) : Prop := v.name.size ≤ maxLen ∧ v.new.size ≤ maxLen ∧ v.col.ok
def Change.sm (v : Change) : Prop := v.col.sm
abbrev changesI (l : List Change) : Slot := .one (.imm 10 (l.map encChange))
theorem rowChange {l : List Change} {i : Nat} (h : i < l.length) : (l.map encChange)[((i : Nat) : Int).toNat]? = some (encChange l[i]) := by rw [Int.toNat_natCast, List.getElem?_map, List.getElem?_eq_getElem h]; rfl
structure VRow where
  id : Int
  ver : Int
  vals : List Val
def encVRow : VRow → List Leaf
  | ⟨id, ver, vals⟩ => [.g (.int .i64 id), .g (.int .i64 ver), .imm 3 (vals.map encVal)]
def VRow.ok (v : VRow) : Prop := (v.vals.length ≤ maxLen ∧ ∀ x ∈ v.vals, x.ok)
def VRow.sm (v : VRow) : Prop := (v.vals.length ≤ 1048576 ∧ ∀ x ∈ v.vals, x.sm)
abbrev vrowsI (l : List VRow) : Slot := .one (.imm 3 (l.map encVRow))
theorem rowVRow {l : List VRow} {i : Nat} (h : i < l.length) : (l.map encVRow)[((i : Nat) : Int).toNat]? = some (encVRow l[i]) := by rw [Int.toNat_natCast, List.getElem?_map, List.getElem?_eq_getElem h]; rfl
structure VTable where
  first : List Col
  changes : List Change
  rows : List VRow
  next : Int
def encVTable : VTable → List Leaf
  | ⟨first, changes, rows, next⟩ => [.imm 7 (first.map encCol), .imm 10 (changes.map encChange), .imm 3 (rows.map encVRow), .g (.int .i64 next)]
def VTable.ok (v : VTable) : Prop := (v.first.length ≤ maxLen ∧ ∀ x ∈ v.first, x.ok) ∧ (v.changes.length ≤ maxLen ∧ ∀ x ∈ v.changes, x.ok) ∧ (v.rows.length ≤ maxLen ∧ ∀ x ∈ v.rows, x.ok)
def VTable.sm (v : VTable) : Prop := (v.first.length ≤ 1048576 ∧ ∀ x ∈ v.first, x.sm) ∧ (v.changes.length ≤ 1048576 ∧ ∀ x ∈ v.changes, x.sm) ∧ (v.rows.length ≤ 1048576 ∧ ∀ x ∈ v.rows, x.sm)
structure VSet where
  name : ByteArray
  val : Val
def VSet.ok (v : VSet) : Prop := v.name.size ≤ maxLen ∧ v.val.ok
def VSet.sm (v : VSet) : Prop := v.val.sm
structure VLink where
  src : ByteArray
  col : ByteArray
  dst : ByteArray
  how : Int
def VLink.ok (v : VLink) : Prop := v.src.size ≤ maxLen ∧ v.col.size ≤ maxLen ∧ v.dst.size ≤ maxLen
def VLink.sm (_ : VLink) : Prop := True
structure VTab where
  name : ByteArray
  table : VTable
def VTab.ok (v : VTab) : Prop := v.name.size ≤ maxLen ∧ v.table.ok
def VTab.sm (v : VTab) : Prop := v.table.sm
structure VBase where
  tabs : List VTab
  links : List VLink
def VBase.ok (v : VBase) : Prop := (v.tabs.length ≤ maxLen ∧ ∀ x ∈ v.tabs, x.ok) ∧ (v.links.length ≤ maxLen ∧ ∀ x ∈ v.links, x.ok)
def VBase.sm (v : VBase) : Prop := (v.tabs.length ≤ 1048576 ∧ ∀ x ∈ v.tabs, x.sm) ∧ (v.links.length ≤ 1048576 ∧ ∀ x ∈ v.links, x.sm)
structure VRef where
  name : ByteArray
  id : Int
def VRef.ok (v : VRef) : Prop := v.name.size ≤ maxLen
def VRef.sm (_ : VRef) : Prop := True
structure VAct where
  kind : Int
  name : ByteArray
  id : Int
  sets : List VSet
  cols : List Col
  change : Change
  link : VLink
def VAct.ok (v : VAct) : Prop := v.name.size ≤ maxLen ∧ (v.sets.length ≤ maxLen ∧ ∀ x ∈ v.sets, x.ok) ∧ (v.cols.length ≤ maxLen ∧ ∀ x ∈ v.cols, x.ok) ∧ v.change.ok ∧ v.link.ok
def VAct.sm (v : VAct) : Prop := (v.sets.length ≤ 1048576 ∧ ∀ x ∈ v.sets, x.sm) ∧ (v.cols.length ≤ 1048576 ∧ ∀ x ∈ v.cols, x.sm) ∧ v.change.sm ∧ v.link.sm
end Go.Vl

namespace Go.Vl
open Go Go.RowKit Go.Proofs
set_option maxRecDepth 100000
set_option linter.unusedSimpArgs false
set_option linter.unusedVariables false
set_option maxHeartbeats 2000000
def q_Val (a b : Val) : Bool := ((a.k == b.k) && ((a.n == b.n) && ((a.t.toList == b.t.toList) && true)))
def q_Col (a b : Col) : Bool := ((a.name.toList == b.name.toList) && ((a.kind == b.kind) && ((a.need == b.need) && ((a.once == b.once) && ((q_Val a.d b.d) && true)))))
section
variable {α : Type} {f : α → α → Bool} {us bs : List α}
end
end Go.Vl

namespace Go.Vl
open Go Go.RowKit Go.Proofs
set_option maxRecDepth 100000
set_option linter.unusedSimpArgs false
set_option linter.unusedVariables false
set_option maxHeartbeats 1000000

theorem row_at {cs : List Col} {i : Nat} (h : i < cs.length) : (cs.map encCol)[((i : Nat) : Int).toNat]? = some (encCol cs[i]) := by
  rw [Int.toNat_natCast, List.getElem?_map, List.getElem?_eq_getElem h]; rfl

end Go.Vl

namespace Go.Vl
open Go Go.RowKit Go.Proofs
set_option maxRecDepth 100000
set_option linter.unusedSimpArgs false
set_option linter.unusedVariables false
set_option maxHeartbeats 1000000

def atGo (s : ByteArray) : List Col → Nat → Int
  | [], _ => -1
  | c :: cs, i => if c.name.toList == s.toList then (i : Int) else atGo s cs (i + 1)
def nameAt (cs : List Col) (s : ByteArray) : Int := atGo s cs 0
theorem atGo_step {cs : List Col} {s : ByteArray} {i : Nat} (h : i < cs.length) : atGo s (cs.drop i) i = if cs[i].name.toList == s.toList then (i : Int) else atGo s (cs.drop (i + 1)) (i + 1) := by
  rw [List.drop_eq_getElem_cons h, atGo]
theorem atGo_end {cs : List Col} {s : ByteArray} {i : Nat} (h : cs.length ≤ i) : atGo s (cs.drop i) i = -1 := by
  rw [List.drop_of_length_le h, atGo]

theorem c_l2At (cs : List Col) (s : ByteArray) (hl : cs.length ≤ maxLen) : CallsV Try.prog 67 [colsI cs, strS s] [] (pureQ (iS (nameAt cs s))) := by
  refine pure_walk hTb Try.func67 rfl rfl Try.ntmps67 (by simp) ?_
  (conv => whnf); repeat' (first | (refine And.intro ?_ ?_ <;> ((try intro h) <;> (try simp only [Bool.not_true, Bool.not_false] at h) <;> first | exact absurd h Bool.false_ne_true | exact absurd h.symm Bool.false_ne_true | conv => whnf)) | (refine Need.mk ?_; kernel_rfl) | (refine Need.mk ⟨rfl, ?_⟩; decide))
  refine VL.loopI hTb (fun i => i ≤ cs.length ∧ nameAt cs s = atGo s (cs.drop i) i) (fun i => ⟨[(0, colsI cs), (1, strS s), (5, iS i)], [], []⟩) (fun i => cs.length - i) 0 ⟨Nat.zero_le _, rfl⟩
    (wk_to [] rfl rfl rfl ⟨rfl, rfl, rfl, trivial⟩ trivial) (fun i hi => ?_)
  obtain ⟨hi, hf⟩ := hi
  (conv => whnf)
  refine And.intro (fun h2 => ?_) (fun h2 => ?_)
  · have hlt : i < cs.length := by simpa using h2
    have hrow := row_at hlt
    (conv => whnf); repeat' (first
    | (refine And.intro ?_ ?_ <;> ((try intro h) <;> (try simp only [Bool.not_true, Bool.not_false] at h) <;> first | exact absurd h Bool.false_ne_true | exact absurd h.symm Bool.false_ne_true | conv => whnf))
    | (refine VL.drawS hTb hMix (by kernel_rfl) (by kernel_rfl) (by kernel_rfl) ?_; conv => whnf)
    | (refine Need.mk ?_; kernel_rfl) | (refine Need.mk ⟨rfl, ?_⟩; decide)
    | (refine VR.op hTb rfl rfl (o_index_imm hTb rfl rfl rfl rfl rfl rfl rfl (Int.natCast_nonneg _) ( hrow)) rfl ?_; conv => whnf)
    | (refine DT.op hTb rfl (o_index_imm hTb rfl rfl rfl rfl rfl rfl rfl (Int.natCast_nonneg _) ( hrow)) rfl ?_; conv => whnf)); all_goals (try simp only [List.get_eq_getElem] at *)
    · have h9 := h
      rw [hf, atGo_step hlt, if_pos h9]; rfl
    · have h9 := h
      refine ⟨i + 1, ⟨hlt, ?_⟩, by omega, wk_to [] rfl rfl rfl ⟨rfl, rfl, congrArg (fun x => Slot.one (.g (.int .i64 x))) (wrap64' (by omega)), trivial⟩ trivial⟩
      rw [hf, atGo_step hlt, if_neg (by rw [h9]; simp)]
  · (conv => whnf)
    rw [hf, atGo_end (by simp at h2; omega)]; rfl

-- the same by a function value
def nmBox (s : ByteArray) : Ob := .box [.g (.string s)]
theorem c_colAt1 (c : Col) (s : ByteArray) : CallsV Try.prog 79 [.agg (encCol c), .one (.ptr 0 0)] [nmBox s] (funQ (bS (c.name.toList == s.toList)) [some (nmBox s)] []) := by
  refine fun_walk hTb Try.func79 rfl rfl Try.ntmps79 (by simp) (by simp) ?_
  (conv => whnf); repeat' (first | (refine And.intro ?_ ?_ <;> ((try intro h) <;> (try simp only [Bool.not_true, Bool.not_false] at h) <;> first | exact absurd h Bool.false_ne_true | exact absurd h.symm Bool.false_ne_true | conv => whnf)) | (refine Need.mk ?_; kernel_rfl) | (refine Need.mk ⟨rfl, ?_⟩; decide))
  exact endG [] rfl rfl rfl rfl rfl ⟨rfl, rfl, rfl⟩

theorem c_indexFunc (cs : List Col) (s : ByteArray) (hl : cs.length ≤ maxLen) : CallsV Try.prog 59 [colsI cs, .one (.clo 79 [0])] [nmBox s] (funQ (iS (nameAt cs s)) [some (nmBox s)] []) := by
  refine fun_walk hTb Try.func59 rfl rfl Try.ntmps59 (by simp) (by simp) ?_
  (conv => whnf); repeat' (first | (refine And.intro ?_ ?_ <;> ((try intro h) <;> (try simp only [Bool.not_true, Bool.not_false] at h) <;> first | exact absurd h Bool.false_ne_true | exact absurd h.symm Bool.false_ne_true | conv => whnf)) | (refine Need.mk ?_; kernel_rfl) | (refine Need.mk ⟨rfl, ?_⟩; decide))
  refine VL.loopI hTb (fun i => i ≤ cs.length ∧ nameAt cs s = atGo s (cs.drop i) i) (fun i => ⟨[(0, colsI cs), (1, .one (.clo 79 [0])), (7, iS ((cs.map encCol).length : Nat)), (8, iS i)], [(0, nmBox s)], []⟩) (fun i => cs.length - i) 0 ⟨Nat.zero_le _, rfl⟩
    (wk_to [(0, 0)] rfl rfl rfl ⟨rfl, rfl, rfl, rfl, trivial⟩ ⟨rfl, ⟨_, rfl, rfl⟩, trivial⟩) (fun i hi => ?_)
  obtain ⟨hi, hf⟩ := hi
  (conv => whnf)
  refine And.intro (fun h2 => ?_) (fun h2 => ?_)
  · have hlt : i < cs.length := by simpa using h2
    have hrow := row_at hlt
    (conv => whnf); repeat' (first
    | (refine And.intro ?_ ?_ <;> ((try intro h) <;> (try simp only [Bool.not_true, Bool.not_false] at h) <;> first | exact absurd h Bool.false_ne_true | exact absurd h.symm Bool.false_ne_true | conv => whnf))
    | (refine VL.drawS hTb hMix (by kernel_rfl) (by kernel_rfl) (by kernel_rfl) ?_; conv => whnf)
    | (refine Need.mk ?_; kernel_rfl) | (refine Need.mk ⟨rfl, ?_⟩; decide)
    | (refine VR.op hTb rfl rfl (o_index_imm hTb rfl rfl rfl rfl rfl rfl rfl (Int.natCast_nonneg _) ( hrow)) rfl ?_; conv => whnf)
    | (refine DT.op hTb rfl (o_index_imm hTb rfl rfl rfl rfl rfl rfl rfl (Int.natCast_nonneg _) ( hrow)) rfl ?_; conv => whnf)); all_goals (try simp only [List.get_eq_getElem] at *)
    refine VR.fun hTb rfl rfl (o_funN (c_colAt1 cs[i] s) true [0] (fun _ => ⟨rfl, by simp [nmBox, GrO, GrL, isMem], by simp⟩) (by simp) rfl rfl rfl rfl rfl ⟨rfl, rfl, rfl, rfl⟩ rfl rfl) ?_
    (conv => whnf); repeat' (first | (refine And.intro ?_ ?_ <;> ((try intro h) <;> (try simp only [Bool.not_true, Bool.not_false] at h) <;> first | exact absurd h Bool.false_ne_true | exact absurd h.symm Bool.false_ne_true | conv => whnf)) | (refine Need.mk ?_; kernel_rfl) | (refine Need.mk ⟨rfl, ?_⟩; decide))
    · have h9 := h
      refine endG [] rfl rfl rfl rfl rfl ⟨?_, rfl, rfl⟩
      rw [hf, atGo_step hlt, if_pos h9]; rfl
    · have h9 := h
      refine ⟨i + 1, ⟨hlt, ?_⟩, by omega, wk_to [(0, 0)] rfl rfl rfl ⟨rfl, rfl, rfl, congrArg (fun x => Slot.one (.g (.int .i64 x))) (wrap64' (by omega)), trivial⟩ ⟨rfl, ⟨_, rfl, rfl⟩, trivial⟩⟩
      rw [hf, atGo_step hlt, if_neg (by rw [h9]; simp)]
  · (conv => whnf)
    refine endG [] rfl rfl rfl rfl rfl ⟨?_, rfl, rfl⟩
    rw [hf, atGo_end (by simp at h2; omega)]; rfl

theorem c_colAt (cs : List Col) (s : ByteArray) (hl : cs.length ≤ maxLen) : CallsV Try.prog 69 [colsI cs, strS s] [] (pureQ (iS (nameAt cs s))) := by
  refine pure_walk hTb Try.func69 rfl rfl Try.ntmps69 (by simp) ?_
  (conv => whnf); repeat' (first | (refine And.intro ?_ ?_ <;> ((try intro h) <;> (try simp only [Bool.not_true, Bool.not_false] at h) <;> first | exact absurd h Bool.false_ne_true | exact absurd h.symm Bool.false_ne_true | conv => whnf)) | (refine Need.mk ?_; kernel_rfl) | (refine Need.mk ⟨rfl, ?_⟩; decide))
  refine VR.fun hTb rfl rfl (o_funN (c_indexFunc cs s hl) true [103] (fun _ => ⟨rfl, by simp [nmBox, GrO, GrL, isMem], by simp⟩) (by simp) rfl rfl rfl rfl rfl ⟨rfl, rfl, rfl, rfl⟩ rfl rfl) ?_
  (conv => whnf); repeat' (first | (refine And.intro ?_ ?_ <;> ((try intro h) <;> (try simp only [Bool.not_true, Bool.not_false] at h) <;> first | exact absurd h Bool.false_ne_true | exact absurd h.symm Bool.false_ne_true | conv => whnf)) | (refine Need.mk ?_; kernel_rfl) | (refine Need.mk ⟨rfl, ?_⟩; decide))
  rfl

-- soundness of a shape
def okGo (all : List Col) : List Col → Nat → Bool
  | [], _ => true
  | c :: cs, i => colOk c && nameAt all c.name == (i : Int) && okGo all cs (i + 1)
theorem okGo_step {all cs : List Col} {i : Nat} (h : i < cs.length) : okGo all (cs.drop i) i = (colOk cs[i] && nameAt all cs[i].name == (i : Int) && okGo all (cs.drop (i + 1)) (i + 1)) := by
  rw [List.drop_eq_getElem_cons h, okGo]
theorem okGo_end {all cs : List Col} {i : Nat} (h : cs.length ≤ i) : okGo all (cs.drop i) i = true := by
  rw [List.drop_of_length_le h, okGo]
def shapeOk (cs : List Col) : Bool := okGo cs cs 0 && (decide (1 ≤ ((cs.map encCol).length : Int)) && decide (((cs.map encCol).length : Int) ≤ 5))

theorem c_specShapeOk (cs : List Col) (hl : cs.length ≤ maxLen) (ho : ∀ c ∈ cs, c.ok) : CallsV Try.prog 42 [colsI cs] [] (pureQ (bS (shapeOk cs))) := by
  refine pure_walk hTb Try.func42 rfl rfl Try.ntmps42 (by simp) ?_
  (conv => whnf); repeat' (first | (refine And.intro ?_ ?_ <;> ((try intro h) <;> (try simp only [Bool.not_true, Bool.not_false] at h) <;> first | exact absurd h Bool.false_ne_true | exact absurd h.symm Bool.false_ne_true | conv => whnf)) | (refine Need.mk ?_; kernel_rfl) | (refine Need.mk ⟨rfl, ?_⟩; decide))
  refine VL.loopI hTb (fun i => i ≤ cs.length ∧ okGo cs cs 0 = okGo cs (cs.drop i) i) (fun i => ⟨[(0, colsI cs), (3, iS i)], [], []⟩) (fun i => cs.length - i) 0 ⟨Nat.zero_le _, rfl⟩
    (wk_to [] rfl rfl rfl ⟨rfl, rfl, trivial⟩ trivial) (fun i hi => ?_)
  obtain ⟨hi, hf⟩ := hi
  (conv => whnf)
  refine And.intro (fun h2 => ?_) (fun h2 => ?_)
  · have hlt : i < cs.length := by simpa using h2
    have hrow := row_at hlt
    (conv => whnf); repeat' (first
    | (refine And.intro ?_ ?_ <;> ((try intro h) <;> (try simp only [Bool.not_true, Bool.not_false] at h) <;> first | exact absurd h Bool.false_ne_true | exact absurd h.symm Bool.false_ne_true | conv => whnf))
    | (refine VL.drawS hTb hMix (by kernel_rfl) (by kernel_rfl) (by kernel_rfl) ?_; conv => whnf)
    | (refine Need.mk ?_; kernel_rfl) | (refine Need.mk ⟨rfl, ?_⟩; decide)
    | (refine VR.op hTb rfl rfl (o_index_imm hTb rfl rfl rfl rfl rfl rfl rfl (Int.natCast_nonneg _) ( hrow)) rfl ?_; conv => whnf)
    | (refine DT.op hTb rfl (o_index_imm hTb rfl rfl rfl rfl rfl rfl rfl (Int.natCast_nonneg _) ( hrow)) rfl ?_; conv => whnf)
    | (refine VR.pure hTb rfl rfl (o_purN (c_specColOk cs[i] (ho _ (List.getElem_mem hlt))) rfl rfl rfl ⟨rfl, rfl, rfl, rfl⟩ rfl) ?_; conv => whnf)
    | (refine DT.pure hTb rfl (o_purN (c_specColOk cs[i] (ho _ (List.getElem_mem hlt))) rfl rfl rfl ⟨rfl, rfl, rfl, rfl⟩ rfl) ?_; conv => whnf)
    | (refine VR.pure hTb rfl rfl (o_purN (c_l2At cs _ hl) rfl rfl rfl ⟨rfl, rfl, rfl, rfl⟩ rfl) ?_; conv => whnf)
    | (refine DT.pure hTb rfl (o_purN (c_l2At cs _ hl) rfl rfl rfl ⟨rfl, rfl, rfl, rfl⟩ rfl) ?_; conv => whnf)); all_goals (try simp only [List.get_eq_getElem] at *)
    all_goals first
      | (refine ⟨i + 1, ⟨hlt, ?_⟩, by omega, wk_to [] rfl rfl rfl ⟨rfl, congrArg (fun x => Slot.one (.g (.int .i64 x))) (wrap64' (by omega)), trivial⟩ trivial⟩
         rw [hf, okGo_step hlt]
         simp_all; done)
      | (simp only [bS, shapeOk, hf, okGo_step hlt]
         simp_all; done)
  · (conv => whnf)
    have hf2 : okGo cs cs 0 = true := by rw [hf, okGo_end (by simp at h2; omega)]
    (conv => whnf); repeat' (first | (refine And.intro ?_ ?_ <;> ((try intro h) <;> (try simp only [Bool.not_true, Bool.not_false] at h) <;> first | exact absurd h Bool.false_ne_true | exact absurd h.symm Bool.false_ne_true | conv => whnf)) | (refine Need.mk ?_; kernel_rfl) | (refine Need.mk ⟨rfl, ?_⟩; decide))
    all_goals (simp only [bS, shapeOk, hf2]; simp_all)
    all_goals (try (intro; omega))

theorem c_implShapeOk (cs : List Col) (hl : cs.length ≤ maxLen) (ho : ∀ c ∈ cs, c.ok) : CallsV Try.prog 44 [colsI cs] [] (pureQ (bS (shapeOk cs))) := by
  refine pure_walk hTb Try.func44 rfl rfl Try.ntmps44 (by simp) ?_
  (conv => whnf); repeat' (first | (refine And.intro ?_ ?_ <;> ((try intro h) <;> (try simp only [Bool.not_true, Bool.not_false] at h) <;> first | exact absurd h Bool.false_ne_true | exact absurd h.symm Bool.false_ne_true | conv => whnf)) | (refine Need.mk ?_; kernel_rfl) | (refine Need.mk ⟨rfl, ?_⟩; decide))
  refine VL.loopI hTb (fun i => i ≤ cs.length ∧ okGo cs cs 0 = okGo cs (cs.drop i) i) (fun i => ⟨[(0, colsI cs), (5, colsI cs), (6, iS ((cs.map encCol).length : Nat)), (7, iS i)], [], []⟩) (fun i => cs.length - i) 0 ⟨Nat.zero_le _, rfl⟩
    (wk_to [] rfl rfl rfl ⟨rfl, rfl, rfl, rfl, trivial⟩ trivial) (fun i hi => ?_)
  obtain ⟨hi, hf⟩ := hi
  (conv => whnf)
  refine And.intro (fun h2 => ?_) (fun h2 => ?_)
  · have hlt : i < cs.length := by simpa using h2
    have hrow := row_at hlt
    (conv => whnf); repeat' (first
    | (refine And.intro ?_ ?_ <;> ((try intro h) <;> (try simp only [Bool.not_true, Bool.not_false] at h) <;> first | exact absurd h Bool.false_ne_true | exact absurd h.symm Bool.false_ne_true | conv => whnf))
    | (refine VL.drawS hTb hMix (by kernel_rfl) (by kernel_rfl) (by kernel_rfl) ?_; conv => whnf)
    | (refine Need.mk ?_; kernel_rfl) | (refine Need.mk ⟨rfl, ?_⟩; decide)
    | (refine VR.op hTb rfl rfl (o_index_imm hTb rfl rfl rfl rfl rfl rfl rfl (Int.natCast_nonneg _) ( hrow)) rfl ?_; conv => whnf)
    | (refine DT.op hTb rfl (o_index_imm hTb rfl rfl rfl rfl rfl rfl rfl (Int.natCast_nonneg _) ( hrow)) rfl ?_; conv => whnf)
    | (refine VR.pure hTb rfl rfl (o_purN (c_implColOk cs[i] (ho _ (List.getElem_mem hlt))) rfl rfl rfl ⟨rfl, rfl, rfl, rfl⟩ rfl) ?_; conv => whnf)
    | (refine DT.pure hTb rfl (o_purN (c_implColOk cs[i] (ho _ (List.getElem_mem hlt))) rfl rfl rfl ⟨rfl, rfl, rfl, rfl⟩ rfl) ?_; conv => whnf)
    | (refine VR.pure hTb rfl rfl (o_purN (c_colAt cs _ hl) rfl rfl rfl ⟨rfl, rfl, rfl, rfl⟩ rfl) ?_; conv => whnf)
    | (refine DT.pure hTb rfl (o_purN (c_colAt cs _ hl) rfl rfl rfl ⟨rfl, rfl, rfl, rfl⟩ rfl) ?_; conv => whnf)); all_goals (try simp only [List.get_eq_getElem] at *)
    all_goals first
      | (refine ⟨i + 1, ⟨hlt, ?_⟩, by omega, wk_to [] rfl rfl rfl ⟨rfl, rfl, rfl, congrArg (fun x => Slot.one (.g (.int .i64 x))) (wrap64' (by omega)), trivial⟩ trivial⟩
         rw [hf, okGo_step hlt]
         simp_all; done)
      | (simp only [bS, shapeOk, hf, okGo_step hlt]
         simp_all; done)
  · have hf2 : okGo cs cs 0 = true := by rw [hf, okGo_end (by simp at h2; omega)]
    (conv => whnf); repeat' (first
    | (refine And.intro ?_ ?_ <;> ((try intro h) <;> (try simp only [Bool.not_true, Bool.not_false] at h) <;> first | exact absurd h Bool.false_ne_true | exact absurd h.symm Bool.false_ne_true | conv => whnf))
    | (refine VL.drawS hTb hMix (by kernel_rfl) (by kernel_rfl) (by kernel_rfl) ?_; conv => whnf)
    | (refine Need.mk ?_; kernel_rfl) | (refine Need.mk ⟨rfl, ?_⟩; decide)
    | (refine VR.pure hTb rfl rfl (o_purN (c_in _ _ _) rfl rfl rfl ⟨rfl, rfl, rfl, rfl⟩ rfl) ?_; conv => whnf)
    | (refine DT.pure hTb rfl (o_purN (c_in _ _ _) rfl rfl rfl ⟨rfl, rfl, rfl, rfl⟩ rfl) ?_; conv => whnf))
    all_goals (simp only [bS, shapeOk, hf2]; simp_all)

end Go.Vl

namespace Go.Vl
open Go Go.RowKit Go.Proofs
set_option maxRecDepth 100000
set_option linter.unusedSimpArgs false
set_option linter.unusedVariables false
set_option maxHeartbeats 2000000

def Val.sml (v : Val) : Prop := v.t.size ≤ 8
def Col.sml (c : Col) : Prop := c.name.size ≤ 8 ∧ c.d.t.size ≤ 8
theorem Col.sml.ok {c : Col} (h : c.sml) : c.ok := ⟨by have := h.1; unfold maxLen; omega, by have := h.2; unfold maxLen; omega⟩
def smlCols (l : List Col) : Prop := ∀ x ∈ l, x.sml


theorem smlCols.set {l : List Col} (h : smlCols l) {i : Nat} {c : Col} (hc : c.sml) : smlCols (l.set i c) := by
  intro x hx
  rcases List.mem_or_eq_of_mem_set hx with hx | rfl
  · exact h x hx
  · exact hc
end Go.Vl

namespace Go.Vl
open Go Go.RowKit Go.Proofs
set_option maxRecDepth 100000
set_option linter.unusedSimpArgs false
set_option linter.unusedVariables false
set_option maxHeartbeats 2000000

def smlVals (l : List Val) : Prop := ∀ x ∈ l, x.t.size ≤ 8
theorem smlVals.set {l : List Val} (h : smlVals l) {i : Nat} {c : Val} (hc : c.t.size ≤ 8) : smlVals (l.set i c) := by
  intro x hx
  rcases List.mem_or_eq_of_mem_set hx with hx | rfl
  · exact h x hx
  · exact hc
theorem smlVals.drop {l : List Val} (h : smlVals l) (n : Nat) : smlVals (l.drop n) := fun x hx => h x (List.mem_of_mem_drop hx)

end Go.Vl

namespace Go.Vl
open Go Go.RowKit Go.Proofs
set_option maxRecDepth 100000
set_option linter.unusedSimpArgs false
set_option linter.unusedVariables false
set_option maxHeartbeats 2000000

theorem BOk.of {bs : List Int} (hb : ∀ x ∈ bs, 0 ≤ x ∧ x < 256) : BOk (bs.take 2000) := ⟨fun x hx => hb x (List.mem_of_mem_take hx), by simp; omega⟩

end Go.Vl

namespace Go.Vl
open Go Go.RowKit Go.Proofs
set_option maxRecDepth 100000
set_option linter.unusedSimpArgs false
set_option linter.unusedVariables false
set_option maxHeartbeats 1000000

end Go.Vl

namespace Go.Vl
open Go Go.RowKit Go.Proofs
set_option maxRecDepth 100000
set_option linter.unusedSimpArgs false
set_option linter.unusedVariables false
set_option maxHeartbeats 2000000

def cellOk (c : Col) (v : Val) : Bool := valOk v && (v.k == 0 || v.k == c.kind) && !(c.need && v.k == 0)
def rowGo : List Col → List Val → Bool
  | c :: cs, v :: vs => cellOk c v && rowGo cs vs
  | [], [] => true
  | _, _ => false
def rowIn (cs : List Col) (vs : List Val) : Bool := if vs.length ≠ cs.length then false else rowGo cs vs
def rowOk (cs : List Col) (vs : List Val) : Bool := shapeOk cs && rowIn cs vs

end Go.Vl

namespace Go.Vl
open Go Go.RowKit Go.Proofs

end Go.Vl

namespace Go.Vl
open Go Go.RowKit Go.Proofs
set_option maxRecDepth 100000
set_option linter.unusedSimpArgs false
set_option linter.unusedVariables false
set_option maxHeartbeats 2000000

theorem smlCols.ok {l : List Col} (h : smlCols l) : ∀ c ∈ l, c.ok := fun c hc => (h c hc).ok

end Go.Vl

namespace Go.Vl
open Go Go.RowKit Go.Proofs
set_option maxRecDepth 100000
set_option linter.unusedSimpArgs false
set_option linter.unusedVariables false
set_option maxHeartbeats 1000000
def zVal : Val := ⟨0, 0, ⟨#[]⟩⟩
theorem grCols (l : List Col) {E sz : Nat} : GrO (.arr E sz (l.map encCol)) := by
  intro r hr x hx
  obtain ⟨c, _, rfl⟩ := List.mem_map.1 hr
  obtain ⟨a1, a2, a3, a4, ⟨a5, a6, a7⟩⟩ := c
  simp [encCol] at hx
  rcases hx with rfl | rfl | rfl | rfl | rfl | rfl | rfl <;> rfl
theorem c_CloneCol (l : List Col) (hl : l.length ≤ 2000000) : CallsV Try.prog 71 [.one (.imm 7 (l.map encCol))] [] (funQ (.one (.own 0 0 l.length)) [] [.arr 40 7 (l.map encCol)]) := by
  refine funF_walk hTb Try.func71 rfl rfl Try.ntmps71 (by simp) (by simp) ?_
  (conv => whnf); repeat' (first
    | (refine And.intro ?_ ?_ <;> ((try intro h) <;> (try simp only [Bool.not_true, Bool.not_false, decide_eq_true_eq, decide_eq_false_iff_not, Int.not_lt, Int.not_le, gt_iff_lt, ge_iff_le] at h) <;> first | exact absurd h Bool.false_ne_true | exact absurd h.symm Bool.false_ne_true | conv => whnf))
    | (refine VL.drawS hTb hMix (by kernel_rfl) (by kernel_rfl) (by kernel_rfl) ?_; conv => whnf)
    | (refine Need.mk ?_; kernel_rfl) | (refine Need.mk ⟨rfl, ?_⟩; decide)
    | (refine VR.rel hTb rfl rfl (o_isnil hTb rfl rfl rfl rfl) ?_; intro b hb; conv => whnf)
    | (refine VR.opk hTb rfl rfl (o_app0 (f := encCol) (m := l) (q := 107) hTb rfl rfl rfl rfl rfl rfl rfl rfl rfl rfl (by omega) (by show _ * 64 ≤ _; omega) (by unfold maxLen; omega)) ?_; conv => whnf)
    | (refine DT.opk hTb rfl (o_app0 (f := encCol) (m := l) (q := 107) hTb rfl rfl rfl rfl rfl rfl rfl rfl rfl rfl (by omega) (by show _ * 64 ≤ _; omega) (by unfold maxLen; omega)) ?_; conv => whnf))
  · have e := hb ‹b = true›
    have e : l = [] := by cases l with | nil => rfl | cons => simp at e
    subst e
    exact EndV.nil 2 102 7 40 rfl rfl (by decide) (endW [102] rfl rfl rfl rfl rfl (LeS.refl _) rfl rfl)
  · exact endW [107] rfl rfl rfl rfl rfl (LeS.refl _) rfl rfl
theorem c_ClipCol (l : List Col) (hl : l.length ≤ 2000000) : CallsV Try.prog 70 [.one (.own 0 0 l.length)] [.arr 40 7 (l.map encCol)] (funQ (.one (.own 0 0 l.length)) [some (.arr 40 7 (l.map encCol))] []) := by
  refine funF_walk hTb Try.func70 rfl rfl Try.ntmps70 (by simp) (by simp) ?_
  (conv => whnf); repeat' (first
    | (refine And.intro ?_ ?_ <;> ((try intro h) <;> (try simp only [Bool.not_true, Bool.not_false, decide_eq_true_eq, decide_eq_false_iff_not, Int.not_lt, Int.not_le, gt_iff_lt, ge_iff_le] at h) <;> first | exact absurd h Bool.false_ne_true | exact absurd h.symm Bool.false_ne_true | conv => whnf))
    | (refine VL.drawS hTb hMix (by kernel_rfl) (by kernel_rfl) (by kernel_rfl) ?_; conv => whnf)
    | (refine Need.mk ?_; kernel_rfl) | (refine Need.mk ⟨rfl, ?_⟩; decide)
    | (refine VR.op hTb rfl rfl (o_slice3_own (n1 := 0) (n2 := l.length) (n3 := l.length) hTb rfl rfl rfl rfl rfl rfl rfl bnd_none (bnd_some rfl) (bnd_some rfl) (Nat.zero_le _) (Nat.le_refl _) (Nat.le_refl _) (by simp)) rfl ?_; conv => whnf))
  exact endW [] rfl rfl rfl rfl rfl (LeS.refl _) rfl rfl
theorem c_cloneCol (l : List Col) (hl : l.length ≤ 2000000) : CallsV Try.prog 45 [.one (.imm 7 (l.map encCol))] [] (funQ (.one (.own 0 0 l.length)) [] [.arr 40 7 (l.map encCol)]) := by
  refine funF_walk hTb Try.func45 rfl rfl Try.ntmps45 (by simp) (by simp) ?_
  (conv => whnf); repeat' (first
    | (refine And.intro ?_ ?_ <;> ((try intro h) <;> (try simp only [Bool.not_true, Bool.not_false, decide_eq_true_eq, decide_eq_false_iff_not, Int.not_lt, Int.not_le, gt_iff_lt, ge_iff_le] at h) <;> first | exact absurd h Bool.false_ne_true | exact absurd h.symm Bool.false_ne_true | conv => whnf))
    | (refine VL.drawS hTb hMix (by kernel_rfl) (by kernel_rfl) (by kernel_rfl) ?_; conv => whnf)
    | (refine Need.mk ?_; kernel_rfl) | (refine Need.mk ⟨rfl, ?_⟩; decide)
    | (refine VR.fun hTb rfl rfl (o_funN (c_CloneCol l hl) false [] (fun h => by cases h) (by simp) rfl rfl rfl rfl rfl ⟨rfl, rfl, rfl, rfl⟩ rfl rfl) ?_; conv => whnf)
    | (refine DT.fun hTb rfl (o_funN (c_CloneCol l hl) false [] (fun h => by cases h) (by simp) rfl rfl rfl rfl rfl ⟨rfl, rfl, rfl, rfl⟩ rfl rfl) rfl ?_; conv => whnf)
    | (refine VR.fun hTb rfl rfl (o_funN (c_ClipCol l hl) false [1016] (fun h => by cases h) (by simp) rfl rfl rfl rfl rfl ⟨rfl, rfl, rfl, rfl⟩ rfl rfl) ?_; conv => whnf)
    | (refine DT.fun hTb rfl (o_funN (c_ClipCol l hl) false [1016] (fun h => by cases h) (by simp) rfl rfl rfl rfl rfl ⟨rfl, rfl, rfl, rfl⟩ rfl rfl) rfl ?_; conv => whnf))
  exact endW [1016] rfl rfl rfl rfl rfl (LeS.refl _) rfl rfl
end Go.Vl
