/- Contracts: columns. -/
import Derived.Test.YtegjajojckbkjaaDoorCb
namespace Go.Vl
open Go Go.RowKit Go.Proofs
set_option maxRecDepth 100000
set_option linter.unusedSimpArgs false
set_option linter.unusedVariables false
set_option maxHeartbeats 400000

structure Col where
  name : ByteArray
  kind : Int
  need : Bool
  once : Bool
  d : Val
def encCol : Col → List Leaf
  | ⟨name, kind, need, once, ⟨k, n, t⟩⟩ => [.g (.string name), .g (.int .i64 kind), .g (.bool need), .g (.bool once), .g (.int .i64 k), .g (.int .i64 n), .g (.string t)]
def Col.ok (c : Col) : Prop := c.name.size ≤ maxLen ∧ c.d.t.size ≤ maxLen

def colsI (cs : List Col) : Slot := .one (.imm 7 (cs.map encCol))
def valsI (cs : List Val) : Slot := .one (.imm 3 (cs.map encVal))

def szCol (c : Col) (n : Int) : Int := if IntKind.i64.wrap (n - c.name.size) < 0 then -1 else if szVal c.d (IntKind.i64.wrap (n - c.name.size)) < 0 then -1 else szVal c.d (IntKind.i64.wrap (n - c.name.size))

def letByte (c : Int) : Bool := decide (97 ≤ c ∧ c ≤ 122)
def letFrom (s : ByteArray) (i : Nat) : Bool := (List.range' i (s.size - i)).all fun j => letByte (sgetI s j)
theorem letFrom_step {s : ByteArray} {i : Nat} (h : i < s.size) : letFrom s i = (letByte (sgetI s i) && letFrom s (i + 1)) := by
  unfold letFrom
  rw [show s.size - i = (s.size - (i + 1)) + 1 by omega, List.range'_succ, List.all_cons]
theorem letFrom_end {s : ByteArray} {i : Nat} (h : s.size ≤ i) : letFrom s i = true := by
  unfold letFrom
  rw [show s.size - i = 0 by omega]; rfl
def nameOk (s : ByteArray) : Bool := letFrom s 0 && (decide (1 ≤ (s.size : Int)) && decide ((s.size : Int) ≤ 3))

theorem c_l2Name (s : ByteArray) (hs : s.size ≤ maxLen) : CallsV Tryd.prog 102 [.one (.g (.string s))] [] (pureQ (bS (nameOk s))) := by
  refine pure_walk hTb Tryd.func102 rfl rfl Tryd.ntmps102 (by simp) ?_
  (conv => whnf); repeat' (first | (refine And.intro ?_ ?_ <;> ((try intro h) <;> (try simp only [Bool.not_true, Bool.not_false] at h) <;> first | exact absurd h Bool.false_ne_true | exact absurd h.symm Bool.false_ne_true | conv => whnf)) | (refine Need.mk ?_; kernel_rfl) | (refine Need.mk ⟨rfl, ?_⟩; decide))
  refine VL.loopI hTb (fun i => i ≤ s.size ∧ letFrom s 0 = letFrom s i) (fun i => ⟨[(0, .one (.g (.string s))), (3, iS i)], [], []⟩) (fun i => s.size - i) 0 ⟨Nat.zero_le _, rfl⟩
    (wk_to [] rfl rfl rfl ⟨rfl, rfl, trivial⟩ trivial) (fun i hi => ?_)
  obtain ⟨hi, hf⟩ := hi
  (conv => whnf); repeat' (first | (refine And.intro ?_ ?_ <;> ((try intro h) <;> (try simp only [Bool.not_true, Bool.not_false] at h) <;> first | exact absurd h Bool.false_ne_true | exact absurd h.symm Bool.false_ne_true | conv => whnf)) | (refine Need.mk ?_; kernel_rfl) | (refine Need.mk ⟨rfl, ?_⟩; decide))
  set_option linter.unusedSimpArgs false in
  all_goals (try simp only [Int.toNat_natCast, decide_eq_true_eq, decide_eq_false_iff_not, bne_iff_ne, bne_eq_false_iff_eq, beq_iff_eq, beq_eq_false_iff_ne, ne_eq, Int.ofNat_lt, Bool.not_true, Bool.not_false, Bool.not_eq_true, Bool.true_eq_false, Bool.false_eq_true, reduceCtorEq] at *)
  all_goals first
    | (refine Need.mk ?_; omega)
    | (refine ⟨i + 1, ⟨by omega, ?_⟩, by omega, wk_to [] rfl rfl rfl ⟨rfl, congrArg (fun x => Slot.one (.g (.int .i64 x))) (wrap64' (by omega)), trivial⟩ trivial⟩; rw [hf, letFrom_step (by omega), show letByte (sgetI s i) = true from decide_eq_true (by omega), Bool.true_and]; done)
    | (simp only [bS, nameOk, hf]; rw [letFrom_step (by omega), show letByte (sgetI s i) = false from decide_eq_false (by omega), Bool.false_and, Bool.false_and]; done)
    | (simp only [bS, nameOk, hf]; rw [letFrom_end (by omega), Bool.true_and]; simp_all; done)
    | (simp only [bS, nameOk, hf]; rw [letFrom_end (by omega), Bool.true_and]; simp_all; intros; omega)

theorem c_isName (s : ByteArray) (hs : s.size ≤ maxLen) : CallsV Tryd.prog 99 [.one (.g (.string s))] [] (pureQ (bS (nameOk s))) := by
  refine pure_walk hTb Tryd.func99 rfl rfl Tryd.ntmps99 (by simp) ?_
  (conv => whnf); repeat' (first | (refine And.intro ?_ ?_ <;> ((try intro h) <;> (try simp only [Bool.not_true, Bool.not_false] at h) <;> first | exact absurd h Bool.false_ne_true | exact absurd h.symm Bool.false_ne_true | conv => whnf)) | (refine Need.mk ?_; kernel_rfl) | (refine Need.mk ⟨rfl, ?_⟩; decide))
  refine VL.loopI hTb (fun i => i ≤ s.size ∧ letFrom s 0 = letFrom s i) (fun i => ⟨[(0, .one (.g (.string s))), (5, iS s.size), (6, iS i)], [], []⟩) (fun i => s.size - i) 0 ⟨Nat.zero_le _, rfl⟩
    (wk_to [] rfl rfl rfl ⟨rfl, rfl, rfl, trivial⟩ trivial) (fun i hi => ?_)
  obtain ⟨hi, hf⟩ := hi
  (conv => whnf); repeat' (first
    | (refine And.intro ?_ ?_ <;> ((try intro h) <;> (try simp only [Bool.not_true, Bool.not_false] at h) <;> first | exact absurd h Bool.false_ne_true | exact absurd h.symm Bool.false_ne_true | conv => whnf))
    | (refine VL.drawS hTb hMix (by kernel_rfl) (by kernel_rfl) (by kernel_rfl) ?_; conv => whnf)
    | (refine Need.mk ?_; kernel_rfl) | (refine Need.mk ⟨rfl, ?_⟩; decide)
    | (refine VR.pure hTb rfl rfl (o_purN (c_in _ _ _) rfl rfl rfl ⟨rfl, rfl, rfl, rfl⟩ rfl) ?_; conv => whnf)
    | (refine DT.pure hTb rfl (o_purN (c_in _ _ _) rfl rfl rfl ⟨rfl, rfl, rfl, rfl⟩ rfl) ?_; conv => whnf))
  set_option linter.unusedSimpArgs false in
  all_goals (try simp only [Int.toNat_natCast, decide_eq_true_eq, decide_eq_false_iff_not, bne_iff_ne, bne_eq_false_iff_eq, beq_iff_eq, beq_eq_false_iff_ne, ne_eq, Int.ofNat_lt, Bool.not_true, Bool.not_false, Bool.not_eq_true, Bool.true_eq_false, Bool.false_eq_true, reduceCtorEq] at *)
  all_goals first
    | (refine Need.mk ?_; omega)
    | (refine ⟨i + 1, ⟨by omega, ?_⟩, by omega, wk_to [] rfl rfl rfl ⟨rfl, rfl, congrArg (fun x => Slot.one (.g (.int .i64 x))) (wrap64' (by omega)), trivial⟩ trivial⟩; rw [hf, letFrom_step (by omega), show letByte (sgetI s i) = true from decide_eq_true (by omega), Bool.true_and]; done)
    | (simp only [bS, nameOk, hf]; rw [letFrom_step (by omega), show letByte (sgetI s i) = false from decide_eq_false (by omega), Bool.false_and, Bool.false_and]; done)
    | (simp only [bS, nameOk, hf]; rw [letFrom_end (by omega), Bool.true_and]; done)

theorem c_fits (v : Val) (n : Int) : CallsV Tryd.prog 87 [.agg (encVal v), iS n] [] (pureQ (bS (v.k == 0 || v.k == n))) := by
  refine pure_walk hTb Tryd.func87 rfl rfl Tryd.ntmps87 (by simp) ?_
  (conv => whnf); repeat' (first | (refine And.intro ?_ ?_ <;> ((try intro h) <;> (try simp only [Bool.not_true, Bool.not_false] at h) <;> first | exact absurd h Bool.false_ne_true | exact absurd h.symm Bool.false_ne_true | conv => whnf)) | (refine Need.mk ?_; kernel_rfl) | (refine Need.mk ⟨rfl, ?_⟩; decide))
  all_goals simp_all [bS]

def colOk (c : Col) : Bool := nameOk c.name && (c.kind == 1 || c.kind == 2) && valOk c.d && (c.d.k == 0 || c.d.k == c.kind) && (!c.once || c.d.k == 0)

theorem c_specColOk (c : Col) (hc : c.ok) : CallsV Tryd.prog 65 [.agg (encCol c)] [] (pureQ (bS (colOk c))) := by
  refine pure_walk hTb Tryd.func65 rfl rfl Tryd.ntmps65 (by simp) ?_
  (conv => whnf); repeat' (first
    | (refine And.intro ?_ ?_ <;> ((try intro h) <;> (try simp only [Bool.not_true, Bool.not_false] at h) <;> first | exact absurd h Bool.false_ne_true | exact absurd h.symm Bool.false_ne_true | conv => whnf))
    | (refine VL.drawS hTb hMix (by kernel_rfl) (by kernel_rfl) (by kernel_rfl) ?_; conv => whnf)
    | (refine Need.mk ?_; kernel_rfl) | (refine Need.mk ⟨rfl, ?_⟩; decide)
    | (refine VR.pure hTb rfl rfl (o_purN (c_l2Name _ hc.1) rfl rfl rfl ⟨rfl, rfl, rfl, rfl⟩ rfl) ?_; conv => whnf)
    | (refine DT.pure hTb rfl (o_purN (c_l2Name _ hc.1) rfl rfl rfl ⟨rfl, rfl, rfl, rfl⟩ rfl) ?_; conv => whnf)
    | (refine VR.pure hTb rfl rfl (o_purN (c_specValOk c.d hc.2) rfl rfl rfl ⟨rfl, rfl, rfl, rfl⟩ rfl) ?_; conv => whnf)
    | (refine DT.pure hTb rfl (o_purN (c_specValOk c.d hc.2) rfl rfl rfl ⟨rfl, rfl, rfl, rfl⟩ rfl) ?_; conv => whnf))
  set_option linter.unusedSimpArgs false in
  all_goals (try simp only [Int.toNat_natCast, decide_eq_true_eq, decide_eq_false_iff_not, bne_iff_ne, bne_eq_false_iff_eq, beq_iff_eq, beq_eq_false_iff_ne, ne_eq, Int.ofNat_lt, Bool.not_true, Bool.not_false, Bool.not_eq_true, Bool.true_eq_false, Bool.false_eq_true, reduceCtorEq] at *)
  all_goals simp_all [bS, colOk]

theorem c_implColOk (c : Col) (hc : c.ok) : CallsV Tryd.prog 62 [.agg (encCol c)] [] (pureQ (bS (colOk c))) := by
  refine pure_walk hTb Tryd.func62 rfl rfl Tryd.ntmps62 (by simp) ?_
  (conv => whnf); repeat' (first
    | (refine And.intro ?_ ?_ <;> ((try intro h) <;> (try simp only [Bool.not_true, Bool.not_false] at h) <;> first | exact absurd h Bool.false_ne_true | exact absurd h.symm Bool.false_ne_true | conv => whnf))
    | (refine VL.drawS hTb hMix (by kernel_rfl) (by kernel_rfl) (by kernel_rfl) ?_; conv => whnf)
    | (refine Need.mk ?_; kernel_rfl) | (refine Need.mk ⟨rfl, ?_⟩; decide)
    | (refine VR.pure hTb rfl rfl (o_purN (c_isName _ hc.1) rfl rfl rfl ⟨rfl, rfl, rfl, rfl⟩ rfl) ?_; conv => whnf)
    | (refine DT.pure hTb rfl (o_purN (c_isName _ hc.1) rfl rfl rfl ⟨rfl, rfl, rfl, rfl⟩ rfl) ?_; conv => whnf)
    | (refine VR.pure hTb rfl rfl (o_purN (c_in _ _ _) rfl rfl rfl ⟨rfl, rfl, rfl, rfl⟩ rfl) ?_; conv => whnf)
    | (refine DT.pure hTb rfl (o_purN (c_in _ _ _) rfl rfl rfl ⟨rfl, rfl, rfl, rfl⟩ rfl) ?_; conv => whnf)
    | (refine VR.pure hTb rfl rfl (o_purN (c_implValOk c.d hc.2) rfl rfl rfl ⟨rfl, rfl, rfl, rfl⟩ rfl) ?_; conv => whnf)
    | (refine DT.pure hTb rfl (o_purN (c_implValOk c.d hc.2) rfl rfl rfl ⟨rfl, rfl, rfl, rfl⟩ rfl) ?_; conv => whnf)
    | (refine VR.pure hTb rfl rfl (o_purN (c_fits c.d _) rfl rfl rfl ⟨rfl, rfl, rfl, rfl⟩ rfl) ?_; conv => whnf)
    | (refine DT.pure hTb rfl (o_purN (c_fits c.d _) rfl rfl rfl ⟨rfl, rfl, rfl, rfl⟩ rfl) ?_; conv => whnf))
  set_option linter.unusedSimpArgs false in
  all_goals (try simp only [Int.toNat_natCast, decide_eq_true_eq, decide_eq_false_iff_not, bne_iff_ne, bne_eq_false_iff_eq, beq_iff_eq, beq_eq_false_iff_ne, ne_eq, Int.ofNat_lt, Bool.not_true, Bool.not_false, Bool.not_eq_true, Bool.true_eq_false, Bool.false_eq_true, reduceCtorEq] at *)
  all_goals (have e : (decide (1 ≤ c.kind) && decide (c.kind ≤ 2)) = (c.kind == 1 || c.kind == 2) := by
               rw [Bool.eq_iff_iff]; simp; omega)
  all_goals (simp only [e] at *)
  all_goals simp_all [bS, colOk]

theorem c_szCol (c : Col) (n : Int) : CallsV Tryd.prog 69 [.agg (encCol c), iS n] [] (pureQ (iS (szCol c n))) := by
  refine pure_walk hTb Tryd.func69 rfl rfl Tryd.ntmps69 (by simp) ?_
  (conv => whnf); repeat' (first
    | (refine And.intro ?_ ?_ <;> ((try intro h) <;> (try simp only [Bool.not_true, Bool.not_false] at h) <;> first | exact absurd h Bool.false_ne_true | exact absurd h.symm Bool.false_ne_true | conv => whnf))
    | (refine VL.drawS hTb hMix (by kernel_rfl) (by kernel_rfl) (by kernel_rfl) ?_; conv => whnf)
    | (refine Need.mk ?_; kernel_rfl) | (refine Need.mk ⟨rfl, ?_⟩; decide)
    | (refine VR.pure hTb rfl rfl (o_purN (c_szVal c.d _) rfl rfl rfl ⟨rfl, rfl, rfl, rfl⟩ rfl) ?_; conv => whnf)
    | (refine DT.pure hTb rfl (o_purN (c_szVal c.d _) rfl rfl rfl ⟨rfl, rfl, rfl, rfl⟩ rfl) ?_; conv => whnf))
  set_option linter.unusedSimpArgs false in
  all_goals (try simp only [Int.toNat_natCast, decide_eq_true_eq, decide_eq_false_iff_not, bne_iff_ne, bne_eq_false_iff_eq, beq_iff_eq, beq_eq_false_iff_ne, ne_eq, Int.ofNat_lt, Bool.not_true, Bool.not_false, Bool.not_eq_true, Bool.true_eq_false, Bool.false_eq_true, reduceCtorEq] at *)
  all_goals (simp only [iS, szCol])
  all_goals (repeat (first | rw [if_pos (by assumption)] | rw [if_neg (by assumption)]))

theorem c_toCol (c : Col) : CallsV Tryd.prog 70 [.agg (encCol c)] [] (pureQ (.agg (encCol c))) := by
  refine pure_walk hTb Tryd.func70 rfl rfl Tryd.ntmps70 (by simp) ?_
  (conv => whnf); repeat' (first
    | (refine And.intro ?_ ?_ <;> ((try intro h) <;> (try simp only [Bool.not_true, Bool.not_false] at h) <;> first | exact absurd h Bool.false_ne_true | exact absurd h.symm Bool.false_ne_true | conv => whnf))
    | (refine VL.drawS hTb hMix (by kernel_rfl) (by kernel_rfl) (by kernel_rfl) ?_; conv => whnf)
    | (refine Need.mk ?_; kernel_rfl) | (refine Need.mk ⟨rfl, ?_⟩; decide)
    | (refine VR.pure hTb rfl rfl (o_purN (c_toVal c.d) rfl rfl rfl ⟨rfl, rfl, rfl, rfl⟩ rfl) ?_; conv => whnf)
    | (refine DT.pure hTb rfl (o_purN (c_toVal c.d) rfl rfl rfl ⟨rfl, rfl, rfl, rfl⟩ rfl) ?_; conv => whnf))
  all_goals rfl

end Go.Vl
