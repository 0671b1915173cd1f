/- Contracts: what an act may be: names and values told, columns, changes, links. Contracts: whether an act may be done: changes. Contracts: how great things are. Printed by our own gends.py. -/
import Derived.Test.YthjgifpjknnimaaJDa
import Derived.Test.YthjgifpjknnimaaWi
set_option linter.unusedSimpArgs false
set_option linter.unusedVariables false

namespace Go.Vl
open Go Go.RowKit Go.Proofs
set_option maxRecDepth 100000
set_option linter.unusedSimpArgs false
set_option linter.unusedVariables false
set_option maxHeartbeats 4000000

def ixGo {α : Type} (p : α → Bool) : List α → Nat → Int
  | [], _ => -1
  | x :: xs, i => if p x then (i : Int) else ixGo p xs (i + 1)
theorem ixGo_step {α : Type} {p : α → Bool} {l : List α} {i : Nat} (h : i < l.length) : ixGo p (l.drop i) i = if p l[i] then (i : Int) else ixGo p (l.drop (i + 1)) (i + 1) := by
  rw [List.drop_eq_getElem_cons h, ixGo]
theorem ixGo_end {α : Type} {p : α → Bool} {l : List α} {i : Nat} (h : l.length ≤ i) : ixGo p (l.drop i) i = -1 := by
  rw [List.drop_of_length_le h, ixGo]
theorem ixGo_any {α : Type} {p : α → Bool} : ∀ (l : List α) (i : Nat), decide (0 ≤ ixGo p l i) = l.any p
  | [], _ => rfl
  | x :: xs, i => by
    rw [ixGo, List.any_cons]
    split
    · rename_i h; rw [h, Bool.true_or, decide_eq_true (by omega)]
    · rename_i h; rw [ixGo_any xs (i + 1), Bool.eq_false_iff.2 h, Bool.false_or]
def setBad (x : VSet) : Bool := !nameOk x.name || !valOk x.val
def colBad (x : Col) : Bool := !colOk x
theorem c_setsOk1 (x : VSet) (hx : x.ok) : CallsV Try.prog 63 [.agg (encVSet x)] [] (pureQ (bS (setBad x))) := by
  have c1 := c_isName x.name hx.1
  have c2 := c_implValOk x.val hx.2
  unfold setBad
  obtain ⟨n, ⟨v1, v2, v3⟩⟩ := x
  simp only at c1 c2
  generalize nameOk n = b1 at c1 ⊢
  generalize valOk ⟨v1, v2, v3⟩ = b2 at c2 ⊢
  refine pure_walk hTb Try.func63 rfl rfl Try.ntmps63 (by simp) ?_
  cases b1 <;> cases b2 <;> (conv => whnf); repeat' (first
    | (refine And.intro ?_ ?_ <;> ((try intro h) <;> (try simp only [Bool.not_true, Bool.not_false, decide_eq_true_eq, decide_eq_false_iff_not, Int.not_lt, Int.not_le, gt_iff_lt, ge_iff_le] at h) <;> first | exact absurd h Bool.false_ne_true | exact absurd h.symm Bool.false_ne_true | conv => whnf))
    | (refine VL.drawS hTb hMix (by kernel_rfl) (by kernel_rfl) (by kernel_rfl) ?_; conv => whnf)
    | (refine Need.mk ?_; kernel_rfl) | (refine Need.mk ⟨rfl, ?_⟩; decide)
    | (refine VR.pure hTb rfl rfl (o_purN (c1) rfl rfl rfl ⟨rfl, rfl, rfl, rfl⟩ rfl) ?_; conv => whnf)
    | (refine DT.pure hTb rfl (o_purN (c1) rfl rfl rfl ⟨rfl, rfl, rfl, rfl⟩ rfl) ?_; conv => whnf)
    | (refine VR.pure hTb rfl rfl (o_purN (c2) rfl rfl rfl ⟨rfl, rfl, rfl, rfl⟩ rfl) ?_; conv => whnf)
    | (refine DT.pure hTb rfl (o_purN (c2) rfl rfl rfl ⟨rfl, rfl, rfl, rfl⟩ rfl) ?_; conv => whnf))
  all_goals rfl
theorem c_actOk1 (x : Col) (hx : x.ok) : CallsV Try.prog 34 [.agg (encCol x)] [] (pureQ (bS (colBad x))) := by
  unfold colBad
  have c1 := c_implColOk x hx
  generalize colOk x = b1 at c1 ⊢
  obtain ⟨xn, xk, x1, x2, ⟨x3, x4, x5⟩⟩ := x
  refine pure_walk hTb Try.func34 rfl rfl Try.ntmps34 (by simp) ?_
  (conv => whnf); repeat' (first
    | (refine And.intro ?_ ?_ <;> ((try intro h) <;> (try simp only [Bool.not_true, Bool.not_false, decide_eq_true_eq, decide_eq_false_iff_not, Int.not_lt, Int.not_le, gt_iff_lt, ge_iff_le] at h) <;> first | exact absurd h Bool.false_ne_true | exact absurd h.symm Bool.false_ne_true | conv => whnf))
    | (refine VL.drawS hTb hMix (by kernel_rfl) (by kernel_rfl) (by kernel_rfl) ?_; conv => whnf)
    | (refine Need.mk ?_; kernel_rfl) | (refine Need.mk ⟨rfl, ?_⟩; decide)
    | (refine VR.pure hTb rfl rfl (o_purN (c1) rfl rfl rfl ⟨rfl, rfl, rfl, rfl⟩ rfl) ?_; conv => whnf)
    | (refine DT.pure hTb rfl (o_purN (c1) rfl rfl rfl ⟨rfl, rfl, rfl, rfl⟩ rfl) ?_; conv => whnf))
  all_goals rfl
theorem c_indexSet (l : List VSet) (hl : l.length ≤ maxLen) (ho : ∀ x ∈ l, x.ok) : CallsV Try.prog 78 [vsetsI l, .one (.clo 63 [])] [] (pureQ (iS (ixGo setBad l 0))) := by
  refine pure_walk hTb Try.func78 rfl rfl Try.ntmps78 (by simp) ?_
  (conv => whnf); repeat' (first | (refine And.intro ?_ ?_ <;> ((try intro h) <;> (try simp only [Bool.not_true, Bool.not_false] at h) <;> first | exact absurd h Bool.false_ne_true | exact absurd h.symm Bool.false_ne_true | conv => whnf)) | (refine Need.mk ?_; kernel_rfl) | (refine Need.mk ⟨rfl, ?_⟩; decide))
  refine VL.loopI hTb (fun i => i ≤ l.length ∧ ixGo setBad l 0 = ixGo setBad (l.drop i) i) (fun i => ⟨[(0, vsetsI l), (1, .one (.clo 63 [])), (7, iS ((l.map encVSet).length : Nat)), (8, iS i)], [], []⟩) (fun i => l.length - i) 0 ⟨Nat.zero_le _, rfl⟩
    (wk_to [] rfl rfl rfl ⟨rfl, rfl, rfl, rfl, trivial⟩ trivial) (fun i hi => ?_)
  obtain ⟨hi, hf⟩ := hi
  (conv => whnf)
  refine And.intro (fun h2 => ?_) (fun h2 => ?_)
  · have hlt : i < l.length := by simpa using h2
    have hrow := rowVSet hlt
    have hs := ixGo_step (p := setBad) hlt
    have c1 := c_setsOk1 l[i] (ho _ (List.getElem_mem hlt))
    rw [hf, hs]
    generalize l[i] = x at hrow c1 ⊢
    generalize setBad x = b at c1 ⊢
    obtain ⟨xn, ⟨x1, x2, x3⟩⟩ := x
    cases b <;> (conv => whnf); repeat' (first
    | (refine And.intro ?_ ?_ <;> ((try intro h) <;> (try simp only [Bool.not_true, Bool.not_false, decide_eq_true_eq, decide_eq_false_iff_not, Int.not_lt, Int.not_le, gt_iff_lt, ge_iff_le] at h) <;> first | exact absurd h Bool.false_ne_true | exact absurd h.symm Bool.false_ne_true | conv => whnf))
    | (refine VL.drawS hTb hMix (by kernel_rfl) (by kernel_rfl) (by kernel_rfl) ?_; conv => whnf)
    | (refine Need.mk ?_; kernel_rfl) | (refine Need.mk ⟨rfl, ?_⟩; decide)
    | (refine VR.op hTb rfl rfl (o_index_imm hTb rfl rfl rfl rfl rfl rfl rfl (by omega) (hrow)) rfl ?_; conv => whnf)
    | (refine DT.op hTb rfl (o_index_imm hTb rfl rfl rfl rfl rfl rfl rfl (by omega) (hrow)) rfl ?_; conv => whnf)
    | (refine VR.pure hTb rfl rfl (o_purN (c1) rfl rfl rfl ⟨rfl, rfl, rfl, rfl⟩ rfl) ?_; conv => whnf)
    | (refine DT.pure hTb rfl (o_purN (c1) rfl rfl rfl ⟨rfl, rfl, rfl, rfl⟩ rfl) ?_; conv => whnf))
    all_goals first
      | rfl
      | exact ⟨i + 1, ⟨hlt, if_neg Bool.false_ne_true⟩, by omega, wk_to [] rfl rfl rfl ⟨rfl, rfl, rfl, congrArg (fun x => Slot.one (.g (.int .i64 x))) (wrap64' (by omega)), trivial⟩ trivial⟩
      | trace_state
  · (conv => whnf)
    rw [hf, ixGo_end (by simp at h2; omega)]; rfl
theorem c_indexCol (l : List Col) (hl : l.length ≤ maxLen) (ho : ∀ x ∈ l, x.ok) : CallsV Try.prog 59 [colsI l, .one (.clo 34 [])] [] (pureQ (iS (ixGo colBad l 0))) := by
  refine pure_walk hTb Try.func59 rfl rfl Try.ntmps59 (by simp) ?_
  (conv => whnf); repeat' (first | (refine And.intro ?_ ?_ <;> ((try intro h) <;> (try simp only [Bool.not_true, Bool.not_false] at h) <;> first | exact absurd h Bool.false_ne_true | exact absurd h.symm Bool.false_ne_true | conv => whnf)) | (refine Need.mk ?_; kernel_rfl) | (refine Need.mk ⟨rfl, ?_⟩; decide))
  refine VL.loopI hTb (fun i => i ≤ l.length ∧ ixGo colBad l 0 = ixGo colBad (l.drop i) i) (fun i => ⟨[(0, colsI l), (1, .one (.clo 34 [])), (7, iS ((l.map encCol).length : Nat)), (8, iS i)], [], []⟩) (fun i => l.length - i) 0 ⟨Nat.zero_le _, rfl⟩
    (wk_to [] rfl rfl rfl ⟨rfl, rfl, rfl, rfl, trivial⟩ trivial) (fun i hi => ?_)
  obtain ⟨hi, hf⟩ := hi
  (conv => whnf)
  refine And.intro (fun h2 => ?_) (fun h2 => ?_)
  · have hlt : i < l.length := by simpa using h2
    have hrow := rowCol hlt
    have hs := ixGo_step (p := colBad) hlt
    have c1 := c_actOk1 l[i] (ho _ (List.getElem_mem hlt))
    rw [hf, hs]
    generalize l[i] = x at hrow c1 ⊢
    generalize colBad x = b at c1 ⊢
    obtain ⟨xn, xk, x1, x2, ⟨x3, x4, x5⟩⟩ := x
    cases b <;> (conv => whnf); repeat' (first
    | (refine And.intro ?_ ?_ <;> ((try intro h) <;> (try simp only [Bool.not_true, Bool.not_false, decide_eq_true_eq, decide_eq_false_iff_not, Int.not_lt, Int.not_le, gt_iff_lt, ge_iff_le] at h) <;> first | exact absurd h Bool.false_ne_true | exact absurd h.symm Bool.false_ne_true | conv => whnf))
    | (refine VL.drawS hTb hMix (by kernel_rfl) (by kernel_rfl) (by kernel_rfl) ?_; conv => whnf)
    | (refine Need.mk ?_; kernel_rfl) | (refine Need.mk ⟨rfl, ?_⟩; decide)
    | (refine VR.op hTb rfl rfl (o_index_imm hTb rfl rfl rfl rfl rfl rfl rfl (by omega) (hrow)) rfl ?_; conv => whnf)
    | (refine DT.op hTb rfl (o_index_imm hTb rfl rfl rfl rfl rfl rfl rfl (by omega) (hrow)) rfl ?_; conv => whnf)
    | (refine VR.pure hTb rfl rfl (o_purN (c1) rfl rfl rfl ⟨rfl, rfl, rfl, rfl⟩ rfl) ?_; conv => whnf)
    | (refine DT.pure hTb rfl (o_purN (c1) rfl rfl rfl ⟨rfl, rfl, rfl, rfl⟩ rfl) ?_; conv => whnf))
    all_goals first
      | rfl
      | exact ⟨i + 1, ⟨hlt, if_neg Bool.false_ne_true⟩, by omega, wk_to [] rfl rfl rfl ⟨rfl, rfl, rfl, congrArg (fun x => Slot.one (.g (.int .i64 x))) (wrap64' (by omega)), trivial⟩ trivial⟩
      | trace_state
  · (conv => whnf)
    rw [hf, ixGo_end (by simp at h2; omega)]; rfl
theorem c_hasSet (l : List VSet) (hl : l.length ≤ maxLen) (ho : ∀ x ∈ l, x.ok) : CallsV Try.prog 62 [vsetsI l, .one (.clo 63 [])] [] (pureQ (bS (l.any setBad))) := by
  have c1 := c_indexSet l hl ho
  have e := ixGo_any (p := setBad) l 0
  rw [← e]
  generalize ixGo setBad l 0 = z at c1
  refine pure_walk hTb Try.func62 rfl rfl Try.ntmps62 (by simp) ?_
  (conv => whnf); repeat' (first
    | (refine And.intro ?_ ?_ <;> ((try intro h) <;> (try simp only [Bool.not_true, Bool.not_false, decide_eq_true_eq, decide_eq_false_iff_not, Int.not_lt, Int.not_le, gt_iff_lt, ge_iff_le] at h) <;> first | exact absurd h Bool.false_ne_true | exact absurd h.symm Bool.false_ne_true | conv => whnf))
    | (refine VL.drawS hTb hMix (by kernel_rfl) (by kernel_rfl) (by kernel_rfl) ?_; conv => whnf)
    | (refine Need.mk ?_; kernel_rfl) | (refine Need.mk ⟨rfl, ?_⟩; decide)
    | (refine VR.pure hTb rfl rfl (o_purN (c1) rfl rfl rfl ⟨rfl, rfl, rfl, rfl⟩ rfl) ?_; conv => whnf)
    | (refine DT.pure hTb rfl (o_purN (c1) rfl rfl rfl ⟨rfl, rfl, rfl, rfl⟩ rfl) ?_; conv => whnf))
  all_goals rfl
theorem c_hasCol (l : List Col) (hl : l.length ≤ maxLen) (ho : ∀ x ∈ l, x.ok) : CallsV Try.prog 33 [colsI l, .one (.clo 34 [])] [] (pureQ (bS (l.any colBad))) := by
  have c1 := c_indexCol l hl ho
  have e := ixGo_any (p := colBad) l 0
  rw [← e]
  generalize ixGo colBad l 0 = z at c1
  refine pure_walk hTb Try.func33 rfl rfl Try.ntmps33 (by simp) ?_
  (conv => whnf); repeat' (first
    | (refine And.intro ?_ ?_ <;> ((try intro h) <;> (try simp only [Bool.not_true, Bool.not_false, decide_eq_true_eq, decide_eq_false_iff_not, Int.not_lt, Int.not_le, gt_iff_lt, ge_iff_le] at h) <;> first | exact absurd h Bool.false_ne_true | exact absurd h.symm Bool.false_ne_true | conv => whnf))
    | (refine VL.drawS hTb hMix (by kernel_rfl) (by kernel_rfl) (by kernel_rfl) ?_; conv => whnf)
    | (refine Need.mk ?_; kernel_rfl) | (refine Need.mk ⟨rfl, ?_⟩; decide)
    | (refine VR.pure hTb rfl rfl (o_purN (c1) rfl rfl rfl ⟨rfl, rfl, rfl, rfl⟩ rfl) ?_; conv => whnf)
    | (refine DT.pure hTb rfl (o_purN (c1) rfl rfl rfl ⟨rfl, rfl, rfl, rfl⟩ rfl) ?_; conv => whnf))
  all_goals rfl
def setsOkB (l : List VSet) : Bool := !l.any setBad && decide ((l.length : Int) ≤ 5)
def colsOkB (l : List Col) : Bool := !l.any colBad && (decide (1 ≤ (l.length : Int)) && decide ((l.length : Int) ≤ 5))
theorem c_implsetsOk (l : List VSet) (hl : l.length ≤ maxLen) (ho : ∀ x ∈ l, x.ok) : CallsV Try.prog 36 [vsetsI l] [] (pureQ (bS (setsOkB l))) := by
  have c1 := c_hasSet l hl ho
  unfold setsOkB
  generalize l.any setBad = b at c1
  have hlen : ((l.map encVSet).length : Int) = (l.length : Int) := by simp
  refine pure_walk hTb Try.func36 rfl rfl Try.ntmps36 (by simp) ?_
  cases b <;> (conv => whnf); repeat' (first
    | (refine And.intro ?_ ?_ <;> ((try intro h) <;> (try simp only [Bool.not_true, Bool.not_false, decide_eq_true_eq, decide_eq_false_iff_not, Int.not_lt, Int.not_le, gt_iff_lt, ge_iff_le] at h) <;> first | exact absurd h Bool.false_ne_true | exact absurd h.symm Bool.false_ne_true | conv => whnf))
    | (refine VL.drawS hTb hMix (by kernel_rfl) (by kernel_rfl) (by kernel_rfl) ?_; conv => whnf)
    | (refine Need.mk ?_; kernel_rfl) | (refine Need.mk ⟨rfl, ?_⟩; decide)
    | (refine VR.pure hTb rfl rfl (o_purN (c1) rfl rfl rfl ⟨rfl, rfl, rfl, rfl⟩ rfl) ?_; conv => whnf)
    | (refine DT.pure hTb rfl (o_purN (c1) rfl rfl rfl ⟨rfl, rfl, rfl, rfl⟩ rfl) ?_; conv => whnf))
  all_goals simp only [bS, List.length_map] at *
  all_goals first
    | (rw [decide_eq_true (by assumption)]; rfl)
    | (rw [decide_eq_false (by omega)]; rfl)
    | rfl
    | trace_state
theorem c_l5Sets (l : List VSet) (hl : l.length ≤ maxLen) (ho : ∀ x ∈ l, x.ok) : CallsV Try.prog 26 [vsetsI l] [] (pureQ (bS (setsOkB l))) := by
  refine pure_walk hTb Try.func26 rfl rfl Try.ntmps26 (by simp) ?_
  (conv => whnf); repeat' (first | (refine And.intro ?_ ?_ <;> ((try intro h) <;> (try simp only [Bool.not_true, Bool.not_false] at h) <;> first | exact absurd h Bool.false_ne_true | exact absurd h.symm Bool.false_ne_true | conv => whnf)) | (refine Need.mk ?_; kernel_rfl) | (refine Need.mk ⟨rfl, ?_⟩; decide))
  refine VL.loopI hTb (fun i => i ≤ l.length ∧ l.any setBad = (l.drop i).any setBad) (fun i => ⟨[(0, vsetsI l), (3, iS i)], [], []⟩) (fun i => l.length - i) 0 ⟨Nat.zero_le _, rfl⟩
    (wk_to [] rfl rfl rfl ⟨rfl, rfl, trivial⟩ trivial) (fun i hi => ?_)
  obtain ⟨hi, hf⟩ := hi
  (conv => whnf)
  refine And.intro (fun h2 => ?_) (fun h2 => ?_)
  · have hlt : i < l.length := by simpa using h2
    have hrow := rowVSet hlt
    have hs : (l.drop i).any setBad = ((!nameOk l[i].name || !valOk l[i].val) || (l.drop (i + 1)).any setBad) := by rw [List.drop_eq_getElem_cons hlt, List.any_cons]; rfl
    have c1 := c_l2Name l[i].name (ho _ (List.getElem_mem hlt)).1
    have c2 := c_specValOk l[i].val (ho _ (List.getElem_mem hlt)).2
    rw [← hf] at hs
    generalize l[i] = x at hrow c1 c2 hs
    obtain ⟨xn, ⟨x1, x2, x3⟩⟩ := x
    simp only at c1 c2 hs
    generalize nameOk xn = b1 at c1 hs
    generalize valOk ⟨x1, x2, x3⟩ = b2 at c2 hs
    cases b1 <;> cases b2 <;> (conv => whnf); repeat' (first
    | (refine And.intro ?_ ?_ <;> ((try intro h) <;> (try simp only [Bool.not_true, Bool.not_false, decide_eq_true_eq, decide_eq_false_iff_not, Int.not_lt, Int.not_le, gt_iff_lt, ge_iff_le] at h) <;> first | exact absurd h Bool.false_ne_true | exact absurd h.symm Bool.false_ne_true | conv => whnf))
    | (refine VL.drawS hTb hMix (by kernel_rfl) (by kernel_rfl) (by kernel_rfl) ?_; conv => whnf)
    | (refine Need.mk ?_; kernel_rfl) | (refine Need.mk ⟨rfl, ?_⟩; decide)
    | (refine VR.op hTb rfl rfl (o_index_imm hTb rfl rfl rfl rfl rfl rfl rfl (by omega) (hrow)) rfl ?_; conv => whnf)
    | (refine DT.op hTb rfl (o_index_imm hTb rfl rfl rfl rfl rfl rfl rfl (by omega) (hrow)) rfl ?_; conv => whnf)
    | (refine VR.pure hTb rfl rfl (o_purN (c1) rfl rfl rfl ⟨rfl, rfl, rfl, rfl⟩ rfl) ?_; conv => whnf)
    | (refine DT.pure hTb rfl (o_purN (c1) rfl rfl rfl ⟨rfl, rfl, rfl, rfl⟩ rfl) ?_; conv => whnf)
    | (refine VR.pure hTb rfl rfl (o_purN (c2) rfl rfl rfl ⟨rfl, rfl, rfl, rfl⟩ rfl) ?_; conv => whnf)
    | (refine DT.pure hTb rfl (o_purN (c2) rfl rfl rfl ⟨rfl, rfl, rfl, rfl⟩ rfl) ?_; conv => whnf))
    all_goals first
      | exact ⟨i + 1, ⟨hlt, hs⟩, by omega, wk_to [] rfl rfl rfl ⟨rfl, congrArg (fun x => Slot.one (.g (.int .i64 x))) (wrap64' (by omega)), trivial⟩ trivial⟩
      | (have e : setsOkB l = false := by (unfold setsOkB; rw [hs]; rfl)
         rw [e]; rfl)
      | trace_state
  · have e : l.any setBad = false := by rw [hf, List.drop_of_length_le (by simp at h2; omega)]; rfl
    unfold setsOkB
    rw [e]
    (conv => whnf)
    exact congrArg bS (by simp)
theorem c_l5Cols (l : List Col) (hl : l.length ≤ maxLen) (ho : ∀ x ∈ l, x.ok) : CallsV Try.prog 24 [colsI l] [] (pureQ (bS (colsOkB l))) := by
  refine pure_walk hTb Try.func24 rfl rfl Try.ntmps24 (by simp) ?_
  (conv => whnf); repeat' (first | (refine And.intro ?_ ?_ <;> ((try intro h) <;> (try simp only [Bool.not_true, Bool.not_false] at h) <;> first | exact absurd h Bool.false_ne_true | exact absurd h.symm Bool.false_ne_true | conv => whnf)) | (refine Need.mk ?_; kernel_rfl) | (refine Need.mk ⟨rfl, ?_⟩; decide))
  refine VL.loopI hTb (fun i => i ≤ l.length ∧ l.any colBad = (l.drop i).any colBad) (fun i => ⟨[(0, colsI l), (3, iS i)], [], []⟩) (fun i => l.length - i) 0 ⟨Nat.zero_le _, rfl⟩
    (wk_to [] rfl rfl rfl ⟨rfl, rfl, trivial⟩ trivial) (fun i hi => ?_)
  obtain ⟨hi, hf⟩ := hi
  (conv => whnf)
  refine And.intro (fun h2 => ?_) (fun h2 => ?_)
  · have hlt : i < l.length := by simpa using h2
    have hrow := rowCol hlt
    have hs : (l.drop i).any colBad = ((!colOk l[i]) || (l.drop (i + 1)).any colBad) := by rw [List.drop_eq_getElem_cons hlt, List.any_cons]; rfl
    have c1 := c_specColOk l[i] (ho _ (List.getElem_mem hlt))
    rw [← hf] at hs
    generalize l[i] = x at hrow c1 hs
    generalize colOk x = b1 at c1 hs
    obtain ⟨xn, xk, x1, x2, ⟨x3, x4, x5⟩⟩ := x
    cases b1 <;> (conv => whnf); repeat' (first
    | (refine And.intro ?_ ?_ <;> ((try intro h) <;> (try simp only [Bool.not_true, Bool.not_false, decide_eq_true_eq, decide_eq_false_iff_not, Int.not_lt, Int.not_le, gt_iff_lt, ge_iff_le] at h) <;> first | exact absurd h Bool.false_ne_true | exact absurd h.symm Bool.false_ne_true | conv => whnf))
    | (refine VL.drawS hTb hMix (by kernel_rfl) (by kernel_rfl) (by kernel_rfl) ?_; conv => whnf)
    | (refine Need.mk ?_; kernel_rfl) | (refine Need.mk ⟨rfl, ?_⟩; decide)
    | (refine VR.op hTb rfl rfl (o_index_imm hTb rfl rfl rfl rfl rfl rfl rfl (by omega) (hrow)) rfl ?_; conv => whnf)
    | (refine DT.op hTb rfl (o_index_imm hTb rfl rfl rfl rfl rfl rfl rfl (by omega) (hrow)) rfl ?_; conv => whnf)
    | (refine VR.pure hTb rfl rfl (o_purN (c1) rfl rfl rfl ⟨rfl, rfl, rfl, rfl⟩ rfl) ?_; conv => whnf)
    | (refine DT.pure hTb rfl (o_purN (c1) rfl rfl rfl ⟨rfl, rfl, rfl, rfl⟩ rfl) ?_; conv => whnf))
    all_goals first
      | exact ⟨i + 1, ⟨hlt, hs⟩, by omega, wk_to [] rfl rfl rfl ⟨rfl, congrArg (fun x => Slot.one (.g (.int .i64 x))) (wrap64' (by omega)), trivial⟩ trivial⟩
      | (have e : colsOkB l = false := by (unfold colsOkB; rw [hs]; rfl)
         rw [e]; rfl)
      | trace_state
  · have e : l.any colBad = false := by rw [hf, List.drop_of_length_le (by simp at h2; omega)]; rfl
    unfold colsOkB
    rw [e]
    (conv => whnf); repeat' (first
    | (refine And.intro ?_ ?_ <;> ((try intro h) <;> (try simp only [Bool.not_true, Bool.not_false, decide_eq_true_eq, decide_eq_false_iff_not, Int.not_lt, Int.not_le, gt_iff_lt, ge_iff_le] at h) <;> first | exact absurd h Bool.false_ne_true | exact absurd h.symm Bool.false_ne_true | conv => whnf))
    | (refine VL.drawS hTb hMix (by kernel_rfl) (by kernel_rfl) (by kernel_rfl) ?_; conv => whnf)
    | (refine Need.mk ?_; kernel_rfl) | (refine Need.mk ⟨rfl, ?_⟩; decide)
    | (fail))
    all_goals simp only [bS, List.length_map] at *
    all_goals first
      | (simp [*]; done)
      | (simp; omega)
      | trace_state
def linkOkB (l : VLink) : Bool := nameOk l.src && (nameOk l.col && (nameOk l.dst && (decide (1 ≤ l.how) && decide (l.how ≤ 3))))
theorem c_l5Link (l : VLink) (hl : l.ok) : CallsV Try.prog 25 [.agg (encVLink l)] [] (pureQ (bS (linkOkB l))) := by
  have c1 := c_l2Name l.src hl.1
  have c2 := c_l2Name l.col hl.2.1
  have c3 := c_l2Name l.dst hl.2.2
  unfold linkOkB
  obtain ⟨a, b, c, d⟩ := l
  simp only at c1 c2 c3 ⊢
  generalize nameOk a = b1 at c1 ⊢
  generalize nameOk b = b2 at c2 ⊢
  generalize nameOk c = b3 at c3 ⊢
  refine pure_walk hTb Try.func25 rfl rfl Try.ntmps25 (by simp) ?_
  cases b1 <;> cases b2 <;> cases b3 <;> (conv => whnf); repeat' (first
    | (refine And.intro ?_ ?_ <;> ((try intro h) <;> (try simp only [Bool.not_true, Bool.not_false, decide_eq_true_eq, decide_eq_false_iff_not, Int.not_lt, Int.not_le, gt_iff_lt, ge_iff_le] at h) <;> first | exact absurd h Bool.false_ne_true | exact absurd h.symm Bool.false_ne_true | conv => whnf))
    | (refine VL.drawS hTb hMix (by kernel_rfl) (by kernel_rfl) (by kernel_rfl) ?_; conv => whnf)
    | (refine Need.mk ?_; kernel_rfl) | (refine Need.mk ⟨rfl, ?_⟩; decide)
    | (refine VR.pure hTb rfl rfl (o_purN (c1) rfl rfl rfl ⟨rfl, rfl, rfl, rfl⟩ rfl) ?_; conv => whnf)
    | (refine DT.pure hTb rfl (o_purN (c1) rfl rfl rfl ⟨rfl, rfl, rfl, rfl⟩ rfl) ?_; conv => whnf)
    | (refine VR.pure hTb rfl rfl (o_purN (c2) rfl rfl rfl ⟨rfl, rfl, rfl, rfl⟩ rfl) ?_; conv => whnf)
    | (refine DT.pure hTb rfl (o_purN (c2) rfl rfl rfl ⟨rfl, rfl, rfl, rfl⟩ rfl) ?_; conv => whnf)
    | (refine VR.pure hTb rfl rfl (o_purN (c3) rfl rfl rfl ⟨rfl, rfl, rfl, rfl⟩ rfl) ?_; conv => whnf)
    | (refine DT.pure hTb rfl (o_purN (c3) rfl rfl rfl ⟨rfl, rfl, rfl, rfl⟩ rfl) ?_; conv => whnf))
  all_goals first
    | rfl
    | (simp [bS, *]; done)
    | (simp [bS]; omega)
    | trace_state
end Go.Vl

namespace Go.Vl
open Go Go.RowKit Go.Proofs
set_option maxRecDepth 100000
set_option linter.unusedSimpArgs false
set_option linter.unusedVariables false
set_option maxHeartbeats 4000000

abbrev eB : ByteArray := ⟨#[]⟩
def kColA (k : Int) : Col := ⟨⟨#[]⟩, k, false, false, ⟨0, 0, ⟨#[]⟩⟩⟩
def namedA (c : Change) : Bool :=
  if c.kind = 1 then eB.toList == c.name.toList && eB.toList == c.new.toList
  else if c.kind = 2 then eB.toList == c.new.toList && q_Col (kColA 0) c.col
  else if c.kind = 3 then q_Col (kColA 0) c.col
  else if c.kind = 4 then eB.toList == c.new.toList && q_Col (kColA c.col.kind) c.col
  else false
theorem eB_comm (b : ByteArray) : (eB.toList == b.toList) = (b.toList == eB.toList) := by rw [Bool.eq_iff_iff, beq_iff_eq, beq_iff_eq]; exact eq_comm
theorem qA_comm (a b : Col) : q_Col a b = q_Col b a := by
  rw [Bool.eq_iff_iff]
  simp only [q_Col, q_Val, Bool.and_eq_true, beq_iff_eq, and_true]
  constructor <;> rintro ⟨h1, h2, h3, h4, h5, h6, h7⟩ <;> exact ⟨h1.symm, h2.symm, h3.symm, h4.symm, h5.symm, h6.symm, h7.symm⟩
theorem c_namedA (c : Change) : CallsV Try.prog 64 [.agg (encChange c)] [] (pureQ (bS (namedA c))) := by
  obtain ⟨kd, nm, nw, ⟨cn, ck, c1, c2, ⟨d1, d2, d3⟩⟩⟩ := c
  refine pure_walk hTb Try.func64 rfl rfl Try.ntmps64 (by simp) ?_
  (conv => whnf); repeat' (first
    | (refine And.intro ?_ ?_ <;> ((try intro h) <;> (try simp only [Bool.not_true, Bool.not_false, decide_eq_true_eq, decide_eq_false_iff_not, Int.not_lt, Int.not_le, gt_iff_lt, ge_iff_le] at h) <;> first | exact absurd h Bool.false_ne_true | exact absurd h.symm Bool.false_ne_true | conv => whnf))
    | (refine VL.drawS hTb hMix (by kernel_rfl) (by kernel_rfl) (by kernel_rfl) ?_; conv => whnf)
    | (refine Need.mk ?_; kernel_rfl) | (refine Need.mk ⟨rfl, ?_⟩; decide)
    | (fail))
  all_goals simp only [bS, namedA, beq_iff_eq, beq_eq_false_iff_ne, ne_eq] at *
  all_goals first
    | (rw [if_pos (by assumption)]; simp; done)
    | (rw [if_neg (by assumption), if_pos (by assumption)]; simp [q_Col, q_Val, kColA]; done)
    | (rw [if_neg (by assumption), if_neg (by assumption), if_pos (by assumption)]; simp [q_Col, q_Val, kColA]; done)
    | (rw [if_neg (by assumption), if_neg (by assumption), if_neg (by assumption), if_pos (by assumption)]; simp [q_Col, q_Val, kColA]; done)
    | (rw [if_neg (by assumption), if_neg (by assumption), if_neg (by assumption), if_neg (by assumption)]; done)
    | trace_state
def chOkB (c : Change) : Bool := namedA c && (if c.kind = 1 then colOk c.col else if c.kind = 2 then nameOk c.name else if c.kind = 3 then nameOk c.name && nameOk c.new else nameOk c.name && (decide (1 ≤ c.col.kind) && decide (c.col.kind ≤ 2)))
theorem c_changeOk (c : Change) (hc : c.ok) : CallsV Try.prog 37 [.agg (encChange c)] [] (pureQ (bS (chOkB c))) := by
  have c1 := c_namedA c
  have c2 := c_implColOk c.col hc.2.2
  have c3 := c_isName c.name hc.1
  have c4 := c_isName c.new hc.2.1
  have c5 := c_in c.col.kind 1 2
  unfold chOkB
  generalize namedA c = z at c1 ⊢
  obtain ⟨kd, nm, nw, col⟩ := c
  simp only at c2 c3 c4 c5 ⊢
  generalize colOk col = b1 at c2 ⊢
  generalize nameOk nm = b2 at c3 ⊢
  generalize nameOk nw = b3 at c4 ⊢
  obtain ⟨cn, ck, k1, k2, ⟨d1, d2, d3⟩⟩ := col
  simp only at c5 ⊢
  generalize (decide (1 ≤ ck) && decide (ck ≤ 2)) = b4 at c5 ⊢
  refine pure_walk hTb Try.func37 rfl rfl Try.ntmps37 (by simp) ?_
  cases z
  · (conv => whnf); repeat' (first
    | (refine And.intro ?_ ?_ <;> ((try intro h) <;> (try simp only [Bool.not_true, Bool.not_false, decide_eq_true_eq, decide_eq_false_iff_not, Int.not_lt, Int.not_le, gt_iff_lt, ge_iff_le] at h) <;> first | exact absurd h Bool.false_ne_true | exact absurd h.symm Bool.false_ne_true | conv => whnf))
    | (refine VL.drawS hTb hMix (by kernel_rfl) (by kernel_rfl) (by kernel_rfl) ?_; conv => whnf)
    | (refine Need.mk ?_; kernel_rfl) | (refine Need.mk ⟨rfl, ?_⟩; decide)
    | (refine VR.pure hTb rfl rfl (o_purN (c1) rfl rfl rfl ⟨rfl, rfl, rfl, rfl⟩ rfl) ?_; conv => whnf)
    | (refine DT.pure hTb rfl (o_purN (c1) rfl rfl rfl ⟨rfl, rfl, rfl, rfl⟩ rfl) ?_; conv => whnf))
    all_goals rfl
  · by_cases e1 : kd = 1
    · subst e1
      (conv => whnf); repeat' (first
    | (refine And.intro ?_ ?_ <;> ((try intro h) <;> (try simp only [Bool.not_true, Bool.not_false, decide_eq_true_eq, decide_eq_false_iff_not, Int.not_lt, Int.not_le, gt_iff_lt, ge_iff_le] at h) <;> first | exact absurd h Bool.false_ne_true | exact absurd h.symm Bool.false_ne_true | conv => whnf))
    | (refine VL.drawS hTb hMix (by kernel_rfl) (by kernel_rfl) (by kernel_rfl) ?_; conv => whnf)
    | (refine Need.mk ?_; kernel_rfl) | (refine Need.mk ⟨rfl, ?_⟩; decide)
    | (refine VR.pure hTb rfl rfl (o_purN (c1) rfl rfl rfl ⟨rfl, rfl, rfl, rfl⟩ rfl) ?_; conv => whnf)
    | (refine DT.pure hTb rfl (o_purN (c1) rfl rfl rfl ⟨rfl, rfl, rfl, rfl⟩ rfl) ?_; conv => whnf)
    | (refine VR.pure hTb rfl rfl (o_purN (c2) rfl rfl rfl ⟨rfl, rfl, rfl, rfl⟩ rfl) ?_; conv => whnf)
    | (refine DT.pure hTb rfl (o_purN (c2) rfl rfl rfl ⟨rfl, rfl, rfl, rfl⟩ rfl) ?_; conv => whnf))
      all_goals rfl
    by_cases e2 : kd = 2
    · subst e2
      (conv => whnf); repeat' (first
    | (refine And.intro ?_ ?_ <;> ((try intro h) <;> (try simp only [Bool.not_true, Bool.not_false, decide_eq_true_eq, decide_eq_false_iff_not, Int.not_lt, Int.not_le, gt_iff_lt, ge_iff_le] at h) <;> first | exact absurd h Bool.false_ne_true | exact absurd h.symm Bool.false_ne_true | conv => whnf))
    | (refine VL.drawS hTb hMix (by kernel_rfl) (by kernel_rfl) (by kernel_rfl) ?_; conv => whnf)
    | (refine Need.mk ?_; kernel_rfl) | (refine Need.mk ⟨rfl, ?_⟩; decide)
    | (refine VR.pure hTb rfl rfl (o_purN (c1) rfl rfl rfl ⟨rfl, rfl, rfl, rfl⟩ rfl) ?_; conv => whnf)
    | (refine DT.pure hTb rfl (o_purN (c1) rfl rfl rfl ⟨rfl, rfl, rfl, rfl⟩ rfl) ?_; conv => whnf)
    | (refine VR.pure hTb rfl rfl (o_purN (c3) rfl rfl rfl ⟨rfl, rfl, rfl, rfl⟩ rfl) ?_; conv => whnf)
    | (refine DT.pure hTb rfl (o_purN (c3) rfl rfl rfl ⟨rfl, rfl, rfl, rfl⟩ rfl) ?_; conv => whnf))
      all_goals rfl
    by_cases e3 : kd = 3
    · subst e3
      cases b2 <;> (conv => whnf); repeat' (first
    | (refine And.intro ?_ ?_ <;> ((try intro h) <;> (try simp only [Bool.not_true, Bool.not_false, decide_eq_true_eq, decide_eq_false_iff_not, Int.not_lt, Int.not_le, gt_iff_lt, ge_iff_le] at h) <;> first | exact absurd h Bool.false_ne_true | exact absurd h.symm Bool.false_ne_true | conv => whnf))
    | (refine VL.drawS hTb hMix (by kernel_rfl) (by kernel_rfl) (by kernel_rfl) ?_; conv => whnf)
    | (refine Need.mk ?_; kernel_rfl) | (refine Need.mk ⟨rfl, ?_⟩; decide)
    | (refine VR.pure hTb rfl rfl (o_purN (c1) rfl rfl rfl ⟨rfl, rfl, rfl, rfl⟩ rfl) ?_; conv => whnf)
    | (refine DT.pure hTb rfl (o_purN (c1) rfl rfl rfl ⟨rfl, rfl, rfl, rfl⟩ rfl) ?_; conv => whnf)
    | (refine VR.pure hTb rfl rfl (o_purN (c3) rfl rfl rfl ⟨rfl, rfl, rfl, rfl⟩ rfl) ?_; conv => whnf)
    | (refine DT.pure hTb rfl (o_purN (c3) rfl rfl rfl ⟨rfl, rfl, rfl, rfl⟩ rfl) ?_; conv => whnf)
    | (refine VR.pure hTb rfl rfl (o_purN (c4) rfl rfl rfl ⟨rfl, rfl, rfl, rfl⟩ rfl) ?_; conv => whnf)
    | (refine DT.pure hTb rfl (o_purN (c4) rfl rfl rfl ⟨rfl, rfl, rfl, rfl⟩ rfl) ?_; conv => whnf))
      all_goals rfl
    rw [if_neg e1, if_neg e2, if_neg e3]
    cases b2 <;> (conv => whnf); repeat' (first
    | (exact absurd (beq_iff_eq.1 h) e1)
    | (exact absurd (beq_iff_eq.1 h) e2)
    | (exact absurd (beq_iff_eq.1 h) e3)
    | (refine And.intro ?_ ?_ <;> ((try intro h) <;> (try simp only [Bool.not_true, Bool.not_false, decide_eq_true_eq, decide_eq_false_iff_not, Int.not_lt, Int.not_le, gt_iff_lt, ge_iff_le] at h) <;> first | exact absurd h Bool.false_ne_true | exact absurd h.symm Bool.false_ne_true | conv => whnf))
    | (refine VL.drawS hTb hMix (by kernel_rfl) (by kernel_rfl) (by kernel_rfl) ?_; conv => whnf)
    | (refine Need.mk ?_; kernel_rfl) | (refine Need.mk ⟨rfl, ?_⟩; decide)
    | (refine VR.pure hTb rfl rfl (o_purN (c1) rfl rfl rfl ⟨rfl, rfl, rfl, rfl⟩ rfl) ?_; conv => whnf)
    | (refine DT.pure hTb rfl (o_purN (c1) rfl rfl rfl ⟨rfl, rfl, rfl, rfl⟩ rfl) ?_; conv => whnf)
    | (refine VR.pure hTb rfl rfl (o_purN (c3) rfl rfl rfl ⟨rfl, rfl, rfl, rfl⟩ rfl) ?_; conv => whnf)
    | (refine DT.pure hTb rfl (o_purN (c3) rfl rfl rfl ⟨rfl, rfl, rfl, rfl⟩ rfl) ?_; conv => whnf)
    | (refine VR.pure hTb rfl rfl (o_purN (c5) rfl rfl rfl ⟨rfl, rfl, rfl, rfl⟩ rfl) ?_; conv => whnf)
    | (refine DT.pure hTb rfl (o_purN (c5) rfl rfl rfl ⟨rfl, rfl, rfl, rfl⟩ rfl) ?_; conv => whnf))
    all_goals first
      | rfl
      | trace_state
theorem chOk4 (cn : ByteArray) (ck : Int) (k1 k2 : Bool) (d : Val) : (q_Col ⟨cn, ck, k1, k2, d⟩ (kColA 1) || q_Col ⟨cn, ck, k1, k2, d⟩ (kColA 2)) = (q_Col ⟨cn, ck, k1, k2, d⟩ (kColA ck) && (decide (1 ≤ ck) && decide (ck ≤ 2))) := by
  rw [Bool.eq_iff_iff]
  simp only [q_Col, kColA, Bool.or_eq_true, Bool.and_eq_true, decide_eq_true_eq]
  rw [beq_iff_eq (a := ck) (b := 1), beq_iff_eq (a := ck) (b := 2), beq_iff_eq (a := ck) (b := ck)]
  constructor
  · rintro (⟨h1, h2, h3⟩ | ⟨h1, h2, h3⟩)
    · exact ⟨⟨h1, rfl, h3⟩, by omega, by omega⟩
    · exact ⟨⟨h1, rfl, h3⟩, by omega, by omega⟩
  · rintro ⟨⟨h1, _, h3⟩, h4, h5⟩
    rcases (show ck = 1 ∨ ck = 2 by omega) with h | h
    · exact .inl ⟨h1, h, h3⟩
    · exact .inr ⟨h1, h, h3⟩
theorem c_l5Change (c : Change) (hc : c.ok) : CallsV Try.prog 27 [.agg (encChange c)] [] (pureQ (bS (chOkB c))) := by
  have c2 := c_specColOk c.col hc.2.2
  have c3 := c_l2Name c.name hc.1
  have c4 := c_l2Name c.new hc.2.1
  unfold chOkB namedA
  rw [eB_comm, eB_comm, qA_comm, qA_comm (kColA c.col.kind)]
  obtain ⟨kd, nm, nw, ⟨cn, ck, k1, k2, ⟨d1, d2, d3⟩⟩⟩ := c
  have e4 := chOk4 cn ck k1 k2 ⟨d1, d2, d3⟩
  simp only at c2 c3 c4 ⊢
  generalize colOk ⟨cn, ck, k1, k2, ⟨d1, d2, d3⟩⟩ = b1 at c2 ⊢
  generalize nameOk nm = b2 at c3 ⊢
  generalize nameOk nw = b3 at c4 ⊢
  obtain ⟨z1, hz1⟩ : ∃ z, (nm.toList == eB.toList) = z := ⟨_, rfl⟩
  obtain ⟨z2, hz2⟩ : ∃ z, (nw.toList == eB.toList) = z := ⟨_, rfl⟩
  obtain ⟨q0, hq0⟩ : ∃ z, (cn.toList == eB.toList && (ck == 0 && (k1 == false && (k2 == false && ((d1 == 0 && (d2 == 0 && (d3.toList == eB.toList && true))) && true))))) = z := ⟨_, rfl⟩
  have fq0 : q_Col ⟨cn, ck, k1, k2, ⟨d1, d2, d3⟩⟩ (kColA 0) = q0 := hq0
  obtain ⟨q1, hq1⟩ : ∃ z, (cn.toList == eB.toList && (ck == 1 && (k1 == false && (k2 == false && ((d1 == 0 && (d2 == 0 && (d3.toList == eB.toList && true))) && true))))) = z := ⟨_, rfl⟩
  have fq1 : q_Col ⟨cn, ck, k1, k2, ⟨d1, d2, d3⟩⟩ (kColA 1) = q1 := hq1
  obtain ⟨q2, hq2⟩ : ∃ z, (cn.toList == eB.toList && (ck == 2 && (k1 == false && (k2 == false && ((d1 == 0 && (d2 == 0 && (d3.toList == eB.toList && true))) && true))))) = z := ⟨_, rfl⟩
  have fq2 : q_Col ⟨cn, ck, k1, k2, ⟨d1, d2, d3⟩⟩ (kColA 2) = q2 := hq2
  refine pure_walk hTb Try.func27 rfl rfl Try.ntmps27 (by simp) ?_
  by_cases e1 : kd = 1
  · subst e1
    rw [hz1, hz2]
    cases b1 <;> cases z1 <;> cases z2 <;> (conv => whnf); repeat' (first
    | (rw [hz1] at h; exact Bool.noConfusion h)
    | (rw [hz2] at h; exact Bool.noConfusion h)
    | (refine And.intro ?_ ?_ <;> ((try intro h) <;> (try simp only [Bool.not_true, Bool.not_false, decide_eq_true_eq, decide_eq_false_iff_not, Int.not_lt, Int.not_le, gt_iff_lt, ge_iff_le] at h) <;> first | exact absurd h Bool.false_ne_true | exact absurd h.symm Bool.false_ne_true | conv => whnf))
    | (refine VL.drawS hTb hMix (by kernel_rfl) (by kernel_rfl) (by kernel_rfl) ?_; conv => whnf)
    | (refine Need.mk ?_; kernel_rfl) | (refine Need.mk ⟨rfl, ?_⟩; decide)
    | (refine VR.pure hTb rfl rfl (o_purN (c2) rfl rfl rfl ⟨rfl, rfl, rfl, rfl⟩ rfl) ?_; conv => whnf)
    | (refine DT.pure hTb rfl (o_purN (c2) rfl rfl rfl ⟨rfl, rfl, rfl, rfl⟩ rfl) ?_; conv => whnf))
    all_goals first
      | rfl
      | exact congrArg bS hz2
      | trace_state
  by_cases e2 : kd = 2
  · subst e2
    rw [hz2, fq0]
    cases b2 <;> cases z2 <;> cases q0 <;> (conv => whnf); repeat' (first
    | (rw [hz2] at h; exact Bool.noConfusion h)
    | (rw [hq0] at h; exact Bool.noConfusion h)
    | (refine And.intro ?_ ?_ <;> ((try intro h) <;> (try simp only [Bool.not_true, Bool.not_false, decide_eq_true_eq, decide_eq_false_iff_not, Int.not_lt, Int.not_le, gt_iff_lt, ge_iff_le] at h) <;> first | exact absurd h Bool.false_ne_true | exact absurd h.symm Bool.false_ne_true | conv => whnf))
    | (refine VL.drawS hTb hMix (by kernel_rfl) (by kernel_rfl) (by kernel_rfl) ?_; conv => whnf)
    | (refine Need.mk ?_; kernel_rfl) | (refine Need.mk ⟨rfl, ?_⟩; decide)
    | (refine VR.pure hTb rfl rfl (o_purN (c3) rfl rfl rfl ⟨rfl, rfl, rfl, rfl⟩ rfl) ?_; conv => whnf)
    | (refine DT.pure hTb rfl (o_purN (c3) rfl rfl rfl ⟨rfl, rfl, rfl, rfl⟩ rfl) ?_; conv => whnf))
    all_goals first
      | rfl
      | exact congrArg bS hq0
      | trace_state
  by_cases e3 : kd = 3
  · subst e3
    rw [fq0]
    cases b2 <;> cases b3 <;> cases q0 <;> (conv => whnf); repeat' (first
    | (rw [hq0] at h; exact Bool.noConfusion h)
    | (refine And.intro ?_ ?_ <;> ((try intro h) <;> (try simp only [Bool.not_true, Bool.not_false, decide_eq_true_eq, decide_eq_false_iff_not, Int.not_lt, Int.not_le, gt_iff_lt, ge_iff_le] at h) <;> first | exact absurd h Bool.false_ne_true | exact absurd h.symm Bool.false_ne_true | conv => whnf))
    | (refine VL.drawS hTb hMix (by kernel_rfl) (by kernel_rfl) (by kernel_rfl) ?_; conv => whnf)
    | (refine Need.mk ?_; kernel_rfl) | (refine Need.mk ⟨rfl, ?_⟩; decide)
    | (refine VR.pure hTb rfl rfl (o_purN (c3) rfl rfl rfl ⟨rfl, rfl, rfl, rfl⟩ rfl) ?_; conv => whnf)
    | (refine DT.pure hTb rfl (o_purN (c3) rfl rfl rfl ⟨rfl, rfl, rfl, rfl⟩ rfl) ?_; conv => whnf)
    | (refine VR.pure hTb rfl rfl (o_purN (c4) rfl rfl rfl ⟨rfl, rfl, rfl, rfl⟩ rfl) ?_; conv => whnf)
    | (refine DT.pure hTb rfl (o_purN (c4) rfl rfl rfl ⟨rfl, rfl, rfl, rfl⟩ rfl) ?_; conv => whnf))
    all_goals first
      | rfl
      | exact congrArg bS hq0
      | trace_state
  by_cases e5 : kd = 4
  · subst e5
    rw [if_neg e1, if_neg e2, if_neg e3, if_pos rfl, if_neg e1, if_neg e2, if_neg e3]
    have e6 : (nw.toList == eB.toList && q_Col ⟨cn, ck, k1, k2, ⟨d1, d2, d3⟩⟩ (kColA ck) && (b2 && (decide (1 ≤ ck) && decide (ck ≤ 2)))) = (b2 && z2 && (q1 || q2)) := by
      rw [← fq1, ← fq2, e4, hz2]
      cases b2 <;> cases z2 <;> simp
    rw [e6]
    cases b2 <;> cases z2 <;> cases q1 <;> cases q2 <;> (conv => whnf); repeat' (first
    | (rw [hz2] at h; exact Bool.noConfusion h)
    | (rw [hq1] at h; exact Bool.noConfusion h)
    | (rw [hq2] at h; exact Bool.noConfusion h)
    | (refine And.intro ?_ ?_ <;> ((try intro h) <;> (try simp only [Bool.not_true, Bool.not_false, decide_eq_true_eq, decide_eq_false_iff_not, Int.not_lt, Int.not_le, gt_iff_lt, ge_iff_le] at h) <;> first | exact absurd h Bool.false_ne_true | exact absurd h.symm Bool.false_ne_true | conv => whnf))
    | (refine VL.drawS hTb hMix (by kernel_rfl) (by kernel_rfl) (by kernel_rfl) ?_; conv => whnf)
    | (refine Need.mk ?_; kernel_rfl) | (refine Need.mk ⟨rfl, ?_⟩; decide)
    | (refine VR.pure hTb rfl rfl (o_purN (c3) rfl rfl rfl ⟨rfl, rfl, rfl, rfl⟩ rfl) ?_; conv => whnf)
    | (refine DT.pure hTb rfl (o_purN (c3) rfl rfl rfl ⟨rfl, rfl, rfl, rfl⟩ rfl) ?_; conv => whnf))
    all_goals first
      | rfl
      | exact congrArg bS hq2
      | trace_state
  rw [if_neg e1, if_neg e2, if_neg e3, if_neg e5, Bool.false_and]
  (conv => whnf); repeat' (first
    | (exact absurd (beq_iff_eq.1 h) e1)
    | (exact absurd (beq_iff_eq.1 h) e2)
    | (exact absurd (beq_iff_eq.1 h) e3)
    | (exact absurd (beq_iff_eq.1 h) e5)
    | (refine And.intro ?_ ?_ <;> ((try intro h) <;> (try simp only [Bool.not_true, Bool.not_false, decide_eq_true_eq, decide_eq_false_iff_not, Int.not_lt, Int.not_le, gt_iff_lt, ge_iff_le] at h) <;> first | exact absurd h Bool.false_ne_true | exact absurd h.symm Bool.false_ne_true | conv => whnf))
    | (refine VL.drawS hTb hMix (by kernel_rfl) (by kernel_rfl) (by kernel_rfl) ?_; conv => whnf)
    | (refine Need.mk ?_; kernel_rfl) | (refine Need.mk ⟨rfl, ?_⟩; decide)
    | (fail))
  all_goals rfl
end Go.Vl

namespace Go.Vl
open Go Go.RowKit Go.Proofs
set_option maxRecDepth 100000
set_option linter.unusedSimpArgs false
set_option linter.unusedVariables false
set_option maxHeartbeats 2000000
theorem wsub {n : Int} {s : Nat} (h0 : 0 ≤ n) (h1 : n ≤ 1048576) (hs : s ≤ maxLen) : IntKind.i64.wrap (n - (s : Int)) = n - s := by rw [IntKind.wrap_i64]; unfold maxLen at hs; omega
theorem z_Val (v : Val) (hv : v.ok) (n : Int) (h0 : 0 ≤ n) (h1 : n ≤ 1048576) : CallsV Try.prog 66 [.agg (encVal v), iS n] [] (relQ (fun y : Int => y ≤ n ∧ (0 ≤ y → v.sm)) iS (fun _ => []) (fun _ => [])) := by
  obtain ⟨k, n, t⟩ := v
  simp only [Val.ok] at hv
  refine funF_walk hTb Try.func66 rfl rfl Try.ntmps66 (by simp) (by simp) ?_
  (conv => whnf); repeat' (first | (refine And.intro ?_ ?_ <;> ((try intro h) <;> (try simp only [Bool.not_true, Bool.not_false] at h) <;> first | exact absurd h Bool.false_ne_true | exact absurd h.symm Bool.false_ne_true | conv => whnf)) | (refine Need.mk ?_; kernel_rfl) | (refine Need.mk ⟨rfl, ?_⟩; decide))
  all_goals refine endR [] _ rfl rfl rfl rfl rfl (LeS.refl _) rfl rfl ⟨by (try simp only [decide_eq_false_iff_not, decide_eq_true_eq, IntKind.wrap_i64] at *); (try simp only [Int.not_lt] at *); (try unfold maxLen at *); omega, fun hp => ?_⟩
  all_goals first
    | exact trivial
    | (exfalso; revert hp; simp; done)
theorem z_Col (v : Col) (hv : v.ok) (n : Int) (h0 : 0 ≤ n) (h1 : n ≤ 1048576) : CallsV Try.prog 41 [.agg (encCol v), iS n] [] (relQ (fun y : Int => y ≤ n ∧ (0 ≤ y → v.sm)) iS (fun _ => []) (fun _ => [])) := by
  obtain ⟨name, kind, need, once, ⟨d_k, d_n, d_t⟩⟩ := v
  simp only [Col.ok] at hv
  refine funF_walk hTb Try.func41 rfl rfl Try.ntmps41 (by simp) (by simp) ?_
  (conv => whnf); repeat' (first
    | (refine And.intro ?_ ?_ <;> ((try intro h) <;> (try simp only [Bool.not_true, Bool.not_false, decide_eq_true_eq, decide_eq_false_iff_not, Int.not_lt, Int.not_le, gt_iff_lt, ge_iff_le] at h) <;> first | exact absurd h Bool.false_ne_true | exact absurd h.symm Bool.false_ne_true | conv => whnf))
    | (refine VL.drawS hTb hMix (by kernel_rfl) (by kernel_rfl) (by kernel_rfl) ?_; conv => whnf)
    | (refine Need.mk ?_; kernel_rfl) | (refine Need.mk ⟨rfl, ?_⟩; decide)
    | (refine VR.rel hTb rfl rfl (o_relN (z_Val ⟨_, _, _⟩ (hv.2) _ (by (try simp only [decide_eq_false_iff_not, decide_eq_true_eq, IntKind.wrap_i64] at *); (try simp only [Int.not_lt] at *); (try unfold maxLen at *); omega) (by (try simp only [decide_eq_false_iff_not, decide_eq_true_eq, IntKind.wrap_i64] at *); (try simp only [Int.not_lt] at *); (try unfold maxLen at *); omega)) false [] (fun _ _ => ⟨by simp, fun h => by cases h⟩) rfl rfl rfl rfl rfl ⟨rfl, rfl, rfl, rfl⟩ rfl rfl) ?_; rintro y_d hy_d; (try simp only at hy_d); conv => whnf)
    | (refine DT.rel hTb rfl (o_relN (z_Val ⟨_, _, _⟩ (hv.2) _ (by (try simp only [decide_eq_false_iff_not, decide_eq_true_eq, IntKind.wrap_i64] at *); (try simp only [Int.not_lt] at *); (try unfold maxLen at *); omega) (by (try simp only [decide_eq_false_iff_not, decide_eq_true_eq, IntKind.wrap_i64] at *); (try simp only [Int.not_lt] at *); (try unfold maxLen at *); omega)) false [] (fun _ _ => ⟨by simp, fun h => by cases h⟩) rfl rfl rfl rfl rfl ⟨rfl, rfl, rfl, rfl⟩ rfl rfl) [] (by kernel_rfl) (by kernel_rfl) ?_; rintro y_d hy_d; (try simp only at hy_d); refine And.intro rfl (And.intro rfl ?_); conv => whnf))
  all_goals refine endR [] _ rfl rfl rfl rfl rfl (LeS.refl _) rfl rfl ⟨by (try simp only [decide_eq_false_iff_not, decide_eq_true_eq, IntKind.wrap_i64] at *); (try simp only [Int.not_lt] at *); (try unfold maxLen at *); omega, fun hp => ?_⟩
  all_goals first
    | exact (hy_d.2 (by (try simp only [decide_eq_false_iff_not, decide_eq_true_eq, IntKind.wrap_i64] at *); (try simp only [Int.not_lt] at *); (try unfold maxLen at *); omega))
    | (exfalso; revert hp; simp; done)
theorem z_Cols (l : List Col) (hl : l.length ≤ maxLen) (hv : ∀ x ∈ l, x.ok) (n : Int) (h0 : 0 ≤ n) (h1 : n ≤ 1048576) : CallsV Try.prog 10 [colsI l, iS n] [] (relQ (fun y : Int => y ≤ n ∧ (0 ≤ y → l.length ≤ 1048576 ∧ ∀ x ∈ l, x.sm)) iS (fun _ => []) (fun _ => [])) := by
  refine funF_walk hTb Try.func10 rfl rfl Try.ntmps10 (by simp) (by simp) ?_
  have e1 : IntKind.i64.wrap (n - ((l.map encCol).length : Int)) = n - l.length := by rw [List.length_map]; exact wsub h0 h1 hl
  (conv => whnf); repeat' (first | (refine And.intro ?_ ?_ <;> ((try intro h) <;> (try simp only [Bool.not_true, Bool.not_false] at h) <;> first | exact absurd h Bool.false_ne_true | exact absurd h.symm Bool.false_ne_true | conv => whnf)) | (refine Need.mk ?_; kernel_rfl) | (refine Need.mk ⟨rfl, ?_⟩; decide))
  · rw [e1] at h
    refine endR [] _ rfl rfl rfl rfl rfl (LeS.refl _) rfl rfl ⟨by omega, fun hp => by omega⟩
  rw [e1] at h ⊢
  have h2 : (l.length : Int) ≤ n := by simp at h; omega
  refine VL.loopI hTb (fun (x : Nat × Int) => x.1 ≤ l.length ∧ 0 ≤ x.2 ∧ x.2 ≤ n ∧ ∀ j (hj : j < l.length), j < x.1 → (l[j]).sm) (fun x => ⟨[(0, colsI l), (5, iS x.1), (1, iS x.2)], [], []⟩) (fun x => l.length - x.1) (0, n - l.length) ⟨Nat.zero_le _, by simp only; omega, by simp only; omega, fun j _ hj => absurd hj (Nat.not_lt_zero _)⟩
    (wk_to [] rfl rfl rfl ⟨rfl, rfl, rfl, trivial⟩ trivial) (fun x hx => ?_)
  obtain ⟨i, y0⟩ := x
  obtain ⟨hi, k0, k1, hs⟩ := hx
  simp only at hi k0 k1 hs
  (conv => whnf)
  refine And.intro (fun h3 => ?_) (fun h3 => ?_)
  · have hlt : i < l.length := by simpa using h3
    have hrow := rowCol hlt
    have hc := z_Col l[i] (hv _ (List.getElem_mem hlt)) y0 k0 (by omega)
    generalize hci : l[i] = ci at hrow hc
    obtain ⟨name, kind, need, once, ⟨d_k, d_n, d_t⟩⟩ := ci
    (conv => whnf); repeat' (first
    | (refine And.intro ?_ ?_ <;> ((try intro h) <;> (try simp only [Bool.not_true, Bool.not_false, decide_eq_true_eq, decide_eq_false_iff_not, Int.not_lt, Int.not_le, gt_iff_lt, ge_iff_le] at h) <;> first | exact absurd h Bool.false_ne_true | exact absurd h.symm Bool.false_ne_true | conv => whnf))
    | (refine VL.drawS hTb hMix (by kernel_rfl) (by kernel_rfl) (by kernel_rfl) ?_; conv => whnf)
    | (refine Need.mk ?_; kernel_rfl) | (refine Need.mk ⟨rfl, ?_⟩; decide)
    | (refine VR.op hTb rfl rfl (o_index_imm hTb rfl rfl rfl rfl rfl rfl rfl (by omega) (hrow)) rfl ?_; conv => whnf)
    | (refine DT.op hTb rfl (o_index_imm hTb rfl rfl rfl rfl rfl rfl rfl (by omega) (hrow)) rfl ?_; conv => whnf)
    | (refine VR.rel hTb rfl rfl (o_relN (hc) false [] (fun _ _ => ⟨by simp, fun h => by cases h⟩) rfl rfl rfl rfl rfl ⟨rfl, rfl, rfl, rfl⟩ rfl rfl) ?_; rintro y1 hy1; (try simp only at hy1); conv => whnf)
    | (refine DT.rel hTb rfl (o_relN (hc) false [] (fun _ _ => ⟨by simp, fun h => by cases h⟩) rfl rfl rfl rfl rfl ⟨rfl, rfl, rfl, rfl⟩ rfl rfl) [] (by kernel_rfl) (by kernel_rfl) ?_; rintro y1 hy1; (try simp only at hy1); refine And.intro rfl (And.intro rfl ?_); conv => whnf))
    · refine endR [] _ rfl rfl rfl rfl rfl (LeS.refl _) rfl rfl ⟨by omega, fun hp => by omega⟩
    · have h4 : 0 ≤ y1 := by first | omega | (simp at h; omega)
      refine ⟨(i + 1, y1), ⟨hlt, h4, by simp only; omega, fun j hj hj2 => ?_⟩, by show l.length - (i + 1) < l.length - i; omega, wk_to [] rfl rfl rfl ⟨rfl, congrArg (fun x => Slot.one (.g (.int .i64 x))) (wrap64' (by unfold maxLen; omega)), rfl, trivial⟩ trivial⟩
      by_cases hji : j = i
      · subst hji; rw [hci]; exact hy1.2 h4
      · exact hs j hj (by omega)
  · (conv => whnf)
    have hie : i = l.length := by simp at h3; omega
    subst hie
    refine endR [] _ rfl rfl rfl rfl rfl (LeS.refl _) rfl rfl ⟨k1, fun hp => ⟨by omega, fun x hx => ?_⟩⟩
    obtain ⟨j, hj, rfl⟩ := List.getElem_of_mem hx
    exact hs j hj hj
theorem z_Change (v : Change) (hv : v.ok) (n : Int) (h0 : 0 ≤ n) (h1 : n ≤ 1048576) : CallsV Try.prog 20 [.agg (encChange v), iS n] [] (relQ (fun y : Int => y ≤ n ∧ (0 ≤ y → v.sm)) iS (fun _ => []) (fun _ => [])) := by
  obtain ⟨kind, name, new, ⟨col_name, col_kind, col_need, col_once, ⟨col_d_k, col_d_n, col_d_t⟩⟩⟩ := v
  simp only [Change.ok] at hv
  refine funF_walk hTb Try.func20 rfl rfl Try.ntmps20 (by simp) (by simp) ?_
  (conv => whnf); repeat' (first
    | (refine And.intro ?_ ?_ <;> ((try intro h) <;> (try simp only [Bool.not_true, Bool.not_false, decide_eq_true_eq, decide_eq_false_iff_not, Int.not_lt, Int.not_le, gt_iff_lt, ge_iff_le] at h) <;> first | exact absurd h Bool.false_ne_true | exact absurd h.symm Bool.false_ne_true | conv => whnf))
    | (refine VL.drawS hTb hMix (by kernel_rfl) (by kernel_rfl) (by kernel_rfl) ?_; conv => whnf)
    | (refine Need.mk ?_; kernel_rfl) | (refine Need.mk ⟨rfl, ?_⟩; decide)
    | (refine VR.rel hTb rfl rfl (o_relN (z_Col ⟨_, _, _, _, ⟨_, _, _⟩⟩ (hv.2.2) _ (by (try simp only [decide_eq_false_iff_not, decide_eq_true_eq, IntKind.wrap_i64] at *); (try simp only [Int.not_lt] at *); (try unfold maxLen at *); omega) (by (try simp only [decide_eq_false_iff_not, decide_eq_true_eq, IntKind.wrap_i64] at *); (try simp only [Int.not_lt] at *); (try unfold maxLen at *); omega)) false [] (fun _ _ => ⟨by simp, fun h => by cases h⟩) rfl rfl rfl rfl rfl ⟨rfl, rfl, rfl, rfl⟩ rfl rfl) ?_; rintro y_col hy_col; (try simp only at hy_col); conv => whnf)
    | (refine DT.rel hTb rfl (o_relN (z_Col ⟨_, _, _, _, ⟨_, _, _⟩⟩ (hv.2.2) _ (by (try simp only [decide_eq_false_iff_not, decide_eq_true_eq, IntKind.wrap_i64] at *); (try simp only [Int.not_lt] at *); (try unfold maxLen at *); omega) (by (try simp only [decide_eq_false_iff_not, decide_eq_true_eq, IntKind.wrap_i64] at *); (try simp only [Int.not_lt] at *); (try unfold maxLen at *); omega)) false [] (fun _ _ => ⟨by simp, fun h => by cases h⟩) rfl rfl rfl rfl rfl ⟨rfl, rfl, rfl, rfl⟩ rfl rfl) [] (by kernel_rfl) (by kernel_rfl) ?_; rintro y_col hy_col; (try simp only at hy_col); refine And.intro rfl (And.intro rfl ?_); conv => whnf))
  all_goals refine endR [] _ rfl rfl rfl rfl rfl (LeS.refl _) rfl rfl ⟨by (try simp only [decide_eq_false_iff_not, decide_eq_true_eq, IntKind.wrap_i64] at *); (try simp only [Int.not_lt] at *); (try unfold maxLen at *); omega, fun hp => ?_⟩
  all_goals first
    | exact (hy_col.2 (by (try simp only [decide_eq_false_iff_not, decide_eq_true_eq, IntKind.wrap_i64] at *); (try simp only [Int.not_lt] at *); (try unfold maxLen at *); omega))
    | (exfalso; revert hp; simp; done)
theorem z_VSet (v : VSet) (hv : v.ok) (n : Int) (h0 : 0 ≤ n) (h1 : n ≤ 1048576) : CallsV Try.prog 55 [.agg (encVSet v), iS n] [] (relQ (fun y : Int => y ≤ n ∧ (0 ≤ y → v.sm)) iS (fun _ => []) (fun _ => [])) := by
  obtain ⟨name, ⟨val_k, val_n, val_t⟩⟩ := v
  simp only [VSet.ok] at hv
  refine funF_walk hTb Try.func55 rfl rfl Try.ntmps55 (by simp) (by simp) ?_
  (conv => whnf); repeat' (first
    | (refine And.intro ?_ ?_ <;> ((try intro h) <;> (try simp only [Bool.not_true, Bool.not_false, decide_eq_true_eq, decide_eq_false_iff_not, Int.not_lt, Int.not_le, gt_iff_lt, ge_iff_le] at h) <;> first | exact absurd h Bool.false_ne_true | exact absurd h.symm Bool.false_ne_true | conv => whnf))
    | (refine VL.drawS hTb hMix (by kernel_rfl) (by kernel_rfl) (by kernel_rfl) ?_; conv => whnf)
    | (refine Need.mk ?_; kernel_rfl) | (refine Need.mk ⟨rfl, ?_⟩; decide)
    | (refine VR.rel hTb rfl rfl (o_relN (z_Val ⟨_, _, _⟩ (hv.2) _ (by (try simp only [decide_eq_false_iff_not, decide_eq_true_eq, IntKind.wrap_i64] at *); (try simp only [Int.not_lt] at *); (try unfold maxLen at *); omega) (by (try simp only [decide_eq_false_iff_not, decide_eq_true_eq, IntKind.wrap_i64] at *); (try simp only [Int.not_lt] at *); (try unfold maxLen at *); omega)) false [] (fun _ _ => ⟨by simp, fun h => by cases h⟩) rfl rfl rfl rfl rfl ⟨rfl, rfl, rfl, rfl⟩ rfl rfl) ?_; rintro y_val hy_val; (try simp only at hy_val); conv => whnf)
    | (refine DT.rel hTb rfl (o_relN (z_Val ⟨_, _, _⟩ (hv.2) _ (by (try simp only [decide_eq_false_iff_not, decide_eq_true_eq, IntKind.wrap_i64] at *); (try simp only [Int.not_lt] at *); (try unfold maxLen at *); omega) (by (try simp only [decide_eq_false_iff_not, decide_eq_true_eq, IntKind.wrap_i64] at *); (try simp only [Int.not_lt] at *); (try unfold maxLen at *); omega)) false [] (fun _ _ => ⟨by simp, fun h => by cases h⟩) rfl rfl rfl rfl rfl ⟨rfl, rfl, rfl, rfl⟩ rfl rfl) [] (by kernel_rfl) (by kernel_rfl) ?_; rintro y_val hy_val; (try simp only at hy_val); refine And.intro rfl (And.intro rfl ?_); conv => whnf))
  all_goals refine endR [] _ rfl rfl rfl rfl rfl (LeS.refl _) rfl rfl ⟨by (try simp only [decide_eq_false_iff_not, decide_eq_true_eq, IntKind.wrap_i64] at *); (try simp only [Int.not_lt] at *); (try unfold maxLen at *); omega, fun hp => ?_⟩
  all_goals first
    | exact (hy_val.2 (by (try simp only [decide_eq_false_iff_not, decide_eq_true_eq, IntKind.wrap_i64] at *); (try simp only [Int.not_lt] at *); (try unfold maxLen at *); omega))
    | (exfalso; revert hp; simp; done)
theorem z_VSets (l : List VSet) (hl : l.length ≤ maxLen) (hv : ∀ x ∈ l, x.ok) (n : Int) (h0 : 0 ≤ n) (h1 : n ≤ 1048576) : CallsV Try.prog 19 [vsetsI l, iS n] [] (relQ (fun y : Int => y ≤ n ∧ (0 ≤ y → l.length ≤ 1048576 ∧ ∀ x ∈ l, x.sm)) iS (fun _ => []) (fun _ => [])) := by
  refine funF_walk hTb Try.func19 rfl rfl Try.ntmps19 (by simp) (by simp) ?_
  have e1 : IntKind.i64.wrap (n - ((l.map encVSet).length : Int)) = n - l.length := by rw [List.length_map]; exact wsub h0 h1 hl
  (conv => whnf); repeat' (first | (refine And.intro ?_ ?_ <;> ((try intro h) <;> (try simp only [Bool.not_true, Bool.not_false] at h) <;> first | exact absurd h Bool.false_ne_true | exact absurd h.symm Bool.false_ne_true | conv => whnf)) | (refine Need.mk ?_; kernel_rfl) | (refine Need.mk ⟨rfl, ?_⟩; decide))
  · rw [e1] at h
    refine endR [] _ rfl rfl rfl rfl rfl (LeS.refl _) rfl rfl ⟨by omega, fun hp => by omega⟩
  rw [e1] at h ⊢
  have h2 : (l.length : Int) ≤ n := by simp at h; omega
  refine VL.loopI hTb (fun (x : Nat × Int) => x.1 ≤ l.length ∧ 0 ≤ x.2 ∧ x.2 ≤ n ∧ ∀ j (hj : j < l.length), j < x.1 → (l[j]).sm) (fun x => ⟨[(0, vsetsI l), (5, iS x.1), (1, iS x.2)], [], []⟩) (fun x => l.length - x.1) (0, n - l.length) ⟨Nat.zero_le _, by simp only; omega, by simp only; omega, fun j _ hj => absurd hj (Nat.not_lt_zero _)⟩
    (wk_to [] rfl rfl rfl ⟨rfl, rfl, rfl, trivial⟩ trivial) (fun x hx => ?_)
  obtain ⟨i, y0⟩ := x
  obtain ⟨hi, k0, k1, hs⟩ := hx
  simp only at hi k0 k1 hs
  (conv => whnf)
  refine And.intro (fun h3 => ?_) (fun h3 => ?_)
  · have hlt : i < l.length := by simpa using h3
    have hrow := rowVSet hlt
    have hc := z_VSet l[i] (hv _ (List.getElem_mem hlt)) y0 k0 (by omega)
    generalize hci : l[i] = ci at hrow hc
    obtain ⟨name, ⟨val_k, val_n, val_t⟩⟩ := ci
    (conv => whnf); repeat' (first
    | (refine And.intro ?_ ?_ <;> ((try intro h) <;> (try simp only [Bool.not_true, Bool.not_false, decide_eq_true_eq, decide_eq_false_iff_not, Int.not_lt, Int.not_le, gt_iff_lt, ge_iff_le] at h) <;> first | exact absurd h Bool.false_ne_true | exact absurd h.symm Bool.false_ne_true | conv => whnf))
    | (refine VL.drawS hTb hMix (by kernel_rfl) (by kernel_rfl) (by kernel_rfl) ?_; conv => whnf)
    | (refine Need.mk ?_; kernel_rfl) | (refine Need.mk ⟨rfl, ?_⟩; decide)
    | (refine VR.op hTb rfl rfl (o_index_imm hTb rfl rfl rfl rfl rfl rfl rfl (by omega) (hrow)) rfl ?_; conv => whnf)
    | (refine DT.op hTb rfl (o_index_imm hTb rfl rfl rfl rfl rfl rfl rfl (by omega) (hrow)) rfl ?_; conv => whnf)
    | (refine VR.rel hTb rfl rfl (o_relN (hc) false [] (fun _ _ => ⟨by simp, fun h => by cases h⟩) rfl rfl rfl rfl rfl ⟨rfl, rfl, rfl, rfl⟩ rfl rfl) ?_; rintro y1 hy1; (try simp only at hy1); conv => whnf)
    | (refine DT.rel hTb rfl (o_relN (hc) false [] (fun _ _ => ⟨by simp, fun h => by cases h⟩) rfl rfl rfl rfl rfl ⟨rfl, rfl, rfl, rfl⟩ rfl rfl) [] (by kernel_rfl) (by kernel_rfl) ?_; rintro y1 hy1; (try simp only at hy1); refine And.intro rfl (And.intro rfl ?_); conv => whnf))
    · refine endR [] _ rfl rfl rfl rfl rfl (LeS.refl _) rfl rfl ⟨by omega, fun hp => by omega⟩
    · have h4 : 0 ≤ y1 := by first | omega | (simp at h; omega)
      refine ⟨(i + 1, y1), ⟨hlt, h4, by simp only; omega, fun j hj hj2 => ?_⟩, by show l.length - (i + 1) < l.length - i; omega, wk_to [] rfl rfl rfl ⟨rfl, congrArg (fun x => Slot.one (.g (.int .i64 x))) (wrap64' (by unfold maxLen; omega)), rfl, trivial⟩ trivial⟩
      by_cases hji : j = i
      · subst hji; rw [hci]; exact hy1.2 h4
      · exact hs j hj (by omega)
  · (conv => whnf)
    have hie : i = l.length := by simp at h3; omega
    subst hie
    refine endR [] _ rfl rfl rfl rfl rfl (LeS.refl _) rfl rfl ⟨k1, fun hp => ⟨by omega, fun x hx => ?_⟩⟩
    obtain ⟨j, hj, rfl⟩ := List.getElem_of_mem hx
    exact hs j hj hj
theorem z_VLink (v : VLink) (hv : v.ok) (n : Int) (h0 : 0 ≤ n) (h1 : n ≤ 1048576) : CallsV Try.prog 21 [.agg (encVLink v), iS n] [] (relQ (fun y : Int => y ≤ n ∧ (0 ≤ y → v.sm)) iS (fun _ => []) (fun _ => [])) := by
  obtain ⟨src, col, dst, how⟩ := v
  simp only [VLink.ok] at hv
  refine funF_walk hTb Try.func21 rfl rfl Try.ntmps21 (by simp) (by simp) ?_
  (conv => whnf); repeat' (first | (refine And.intro ?_ ?_ <;> ((try intro h) <;> (try simp only [Bool.not_true, Bool.not_false] at h) <;> first | exact absurd h Bool.false_ne_true | exact absurd h.symm Bool.false_ne_true | conv => whnf)) | (refine Need.mk ?_; kernel_rfl) | (refine Need.mk ⟨rfl, ?_⟩; decide))
  all_goals refine endR [] _ rfl rfl rfl rfl rfl (LeS.refl _) rfl rfl ⟨by (try simp only [decide_eq_false_iff_not, decide_eq_true_eq, IntKind.wrap_i64] at *); (try simp only [Int.not_lt] at *); (try unfold maxLen at *); omega, fun hp => ?_⟩
  all_goals first
    | exact trivial
    | (exfalso; revert hp; simp; done)
theorem z_VAct (v : VAct) (hv : v.ok) (n : Int) (h0 : 0 ≤ n) (h1 : n ≤ 1048576) : CallsV Try.prog 5 [.agg (encVAct v), iS n] [] (relQ (fun y : Int => y ≤ n ∧ (0 ≤ y → v.sm)) iS (fun _ => []) (fun _ => [])) := by
  obtain ⟨kind, name, id, sets, cols, ⟨change_kind, change_name, change_new, ⟨change_col_name, change_col_kind, change_col_need, change_col_once, ⟨change_col_d_k, change_col_d_n, change_col_d_t⟩⟩⟩, ⟨link_src, link_col, link_dst, link_how⟩⟩ := v
  simp only [VAct.ok] at hv
  refine funF_walk hTb Try.func5 rfl rfl Try.ntmps5 (by simp) (by simp) ?_
  (conv => whnf); repeat' (first
    | (refine And.intro ?_ ?_ <;> ((try intro h) <;> (try simp only [Bool.not_true, Bool.not_false, decide_eq_true_eq, decide_eq_false_iff_not, Int.not_lt, Int.not_le, gt_iff_lt, ge_iff_le] at h) <;> first | exact absurd h Bool.false_ne_true | exact absurd h.symm Bool.false_ne_true | conv => whnf))
    | (refine VL.drawS hTb hMix (by kernel_rfl) (by kernel_rfl) (by kernel_rfl) ?_; conv => whnf)
    | (refine Need.mk ?_; kernel_rfl) | (refine Need.mk ⟨rfl, ?_⟩; decide)
    | (refine VR.rel hTb rfl rfl (o_relN (z_VSets _ (hv.2.1).1 (hv.2.1).2 _ (by (try simp only [decide_eq_false_iff_not, decide_eq_true_eq, IntKind.wrap_i64] at *); (try simp only [Int.not_lt] at *); (try unfold maxLen at *); omega) (by (try simp only [decide_eq_false_iff_not, decide_eq_true_eq, IntKind.wrap_i64] at *); (try simp only [Int.not_lt] at *); (try unfold maxLen at *); omega)) false [] (fun _ _ => ⟨by simp, fun h => by cases h⟩) rfl rfl rfl rfl rfl ⟨rfl, rfl, rfl, rfl⟩ rfl rfl) ?_; rintro y_sets hy_sets; (try simp only at hy_sets); conv => whnf)
    | (refine DT.rel hTb rfl (o_relN (z_VSets _ (hv.2.1).1 (hv.2.1).2 _ (by (try simp only [decide_eq_false_iff_not, decide_eq_true_eq, IntKind.wrap_i64] at *); (try simp only [Int.not_lt] at *); (try unfold maxLen at *); omega) (by (try simp only [decide_eq_false_iff_not, decide_eq_true_eq, IntKind.wrap_i64] at *); (try simp only [Int.not_lt] at *); (try unfold maxLen at *); omega)) false [] (fun _ _ => ⟨by simp, fun h => by cases h⟩) rfl rfl rfl rfl rfl ⟨rfl, rfl, rfl, rfl⟩ rfl rfl) [] (by kernel_rfl) (by kernel_rfl) ?_; rintro y_sets hy_sets; (try simp only at hy_sets); refine And.intro rfl (And.intro rfl ?_); conv => whnf)
    | (refine VR.rel hTb rfl rfl (o_relN (z_Cols _ (hv.2.2.1).1 (hv.2.2.1).2 _ (by (try simp only [decide_eq_false_iff_not, decide_eq_true_eq, IntKind.wrap_i64] at *); (try simp only [Int.not_lt] at *); (try unfold maxLen at *); omega) (by (try simp only [decide_eq_false_iff_not, decide_eq_true_eq, IntKind.wrap_i64] at *); (try simp only [Int.not_lt] at *); (try unfold maxLen at *); omega)) false [] (fun _ _ => ⟨by simp, fun h => by cases h⟩) rfl rfl rfl rfl rfl ⟨rfl, rfl, rfl, rfl⟩ rfl rfl) ?_; rintro y_cols hy_cols; (try simp only at hy_cols); conv => whnf)
    | (refine DT.rel hTb rfl (o_relN (z_Cols _ (hv.2.2.1).1 (hv.2.2.1).2 _ (by (try simp only [decide_eq_false_iff_not, decide_eq_true_eq, IntKind.wrap_i64] at *); (try simp only [Int.not_lt] at *); (try unfold maxLen at *); omega) (by (try simp only [decide_eq_false_iff_not, decide_eq_true_eq, IntKind.wrap_i64] at *); (try simp only [Int.not_lt] at *); (try unfold maxLen at *); omega)) false [] (fun _ _ => ⟨by simp, fun h => by cases h⟩) rfl rfl rfl rfl rfl ⟨rfl, rfl, rfl, rfl⟩ rfl rfl) [] (by kernel_rfl) (by kernel_rfl) ?_; rintro y_cols hy_cols; (try simp only at hy_cols); refine And.intro rfl (And.intro rfl ?_); conv => whnf)
    | (refine VR.rel hTb rfl rfl (o_relN (z_Change ⟨_, _, _, ⟨_, _, _, _, ⟨_, _, _⟩⟩⟩ (hv.2.2.2.1) _ (by (try simp only [decide_eq_false_iff_not, decide_eq_true_eq, IntKind.wrap_i64] at *); (try simp only [Int.not_lt] at *); (try unfold maxLen at *); omega) (by (try simp only [decide_eq_false_iff_not, decide_eq_true_eq, IntKind.wrap_i64] at *); (try simp only [Int.not_lt] at *); (try unfold maxLen at *); omega)) false [] (fun _ _ => ⟨by simp, fun h => by cases h⟩) rfl rfl rfl rfl rfl ⟨rfl, rfl, rfl, rfl⟩ rfl rfl) ?_; rintro y_change hy_change; (try simp only at hy_change); conv => whnf)
    | (refine DT.rel hTb rfl (o_relN (z_Change ⟨_, _, _, ⟨_, _, _, _, ⟨_, _, _⟩⟩⟩ (hv.2.2.2.1) _ (by (try simp only [decide_eq_false_iff_not, decide_eq_true_eq, IntKind.wrap_i64] at *); (try simp only [Int.not_lt] at *); (try unfold maxLen at *); omega) (by (try simp only [decide_eq_false_iff_not, decide_eq_true_eq, IntKind.wrap_i64] at *); (try simp only [Int.not_lt] at *); (try unfold maxLen at *); omega)) false [] (fun _ _ => ⟨by simp, fun h => by cases h⟩) rfl rfl rfl rfl rfl ⟨rfl, rfl, rfl, rfl⟩ rfl rfl) [] (by kernel_rfl) (by kernel_rfl) ?_; rintro y_change hy_change; (try simp only at hy_change); refine And.intro rfl (And.intro rfl ?_); conv => whnf)
    | (refine VR.rel hTb rfl rfl (o_relN (z_VLink ⟨_, _, _, _⟩ (hv.2.2.2.2) _ (by (try simp only [decide_eq_false_iff_not, decide_eq_true_eq, IntKind.wrap_i64] at *); (try simp only [Int.not_lt] at *); (try unfold maxLen at *); omega) (by (try simp only [decide_eq_false_iff_not, decide_eq_true_eq, IntKind.wrap_i64] at *); (try simp only [Int.not_lt] at *); (try unfold maxLen at *); omega)) false [] (fun _ _ => ⟨by simp, fun h => by cases h⟩) rfl rfl rfl rfl rfl ⟨rfl, rfl, rfl, rfl⟩ rfl rfl) ?_; rintro y_link hy_link; (try simp only at hy_link); conv => whnf)
    | (refine DT.rel hTb rfl (o_relN (z_VLink ⟨_, _, _, _⟩ (hv.2.2.2.2) _ (by (try simp only [decide_eq_false_iff_not, decide_eq_true_eq, IntKind.wrap_i64] at *); (try simp only [Int.not_lt] at *); (try unfold maxLen at *); omega) (by (try simp only [decide_eq_false_iff_not, decide_eq_true_eq, IntKind.wrap_i64] at *); (try simp only [Int.not_lt] at *); (try unfold maxLen at *); omega)) false [] (fun _ _ => ⟨by simp, fun h => by cases h⟩) rfl rfl rfl rfl rfl ⟨rfl, rfl, rfl, rfl⟩ rfl rfl) [] (by kernel_rfl) (by kernel_rfl) ?_; rintro y_link hy_link; (try simp only at hy_link); refine And.intro rfl (And.intro rfl ?_); conv => whnf))
  all_goals refine endR [] _ rfl rfl rfl rfl rfl (LeS.refl _) rfl rfl ⟨by (try simp only [decide_eq_false_iff_not, decide_eq_true_eq, IntKind.wrap_i64] at *); (try simp only [Int.not_lt] at *); (try unfold maxLen at *); omega, fun hp => ?_⟩
  all_goals first
    | exact ⟨(hy_sets.2 (by (try simp only [decide_eq_false_iff_not, decide_eq_true_eq, IntKind.wrap_i64] at *); (try simp only [Int.not_lt] at *); (try unfold maxLen at *); omega)), (hy_cols.2 (by (try simp only [decide_eq_false_iff_not, decide_eq_true_eq, IntKind.wrap_i64] at *); (try simp only [Int.not_lt] at *); (try unfold maxLen at *); omega)), (hy_change.2 (by (try simp only [decide_eq_false_iff_not, decide_eq_true_eq, IntKind.wrap_i64] at *); (try simp only [Int.not_lt] at *); (try unfold maxLen at *); omega)), (hy_link.2 (by (try simp only [decide_eq_false_iff_not, decide_eq_true_eq, IntKind.wrap_i64] at *); (try simp only [Int.not_lt] at *); (try unfold maxLen at *); omega))⟩
    | (exfalso; revert hp; simp; done)
end Go.Vl
