/- Laws: columns and rows behind changes: the program's are the reference's; what it gives back is its own. Laws of tables: how great a table is; the program's TableOk is the reference's. Contracts: tables in memory of their own: copied, marked, held. How great a table is, summed. The types of what is handed in, as leaves. Printed by our own gends.py. Laws: the columns of a table as they are: the program's are the reference's; what it gives back is its own. Laws: a row of a table as it is now: the program's is the reference's; what it gives back is its own. Law: a row of a table as it is now. Rows of a table that hold a value, told by their ids: both sides; integers marked, held. Law: the rows of a table that hold a value. A table as it is now, without changes: both sides. Law: a table as it is now, without changes. A new table: both sides; marks of it. -/
import Derived.Test.YthjgifpjknnimaaJCd
import Derived.Test.YthjgifpjknnimaaJCc
import Derived.Test.YthjgifpjknnimaaWj
import Derived.Test.YthjgifpjknnimaaWk
import Derived.Test.YthjgifpjknnimaaJCa
set_option linter.unusedSimpArgs false
set_option linter.unusedVariables false

namespace Go.Vl
open Go Go.RowKit Go.Proofs
set_option maxRecDepth 100000
set_option linter.unusedSimpArgs false
set_option linter.unusedVariables false
set_option maxHeartbeats 8000000

theorem lmax {n : Nat} (h : n ≤ 3000000) : n ≤ maxLen := by unfold maxLen; omega

theorem y_ColsN (l : List Col) (hl : l.length ≤ maxLen) (hv : ∀ x ∈ l, x.ok) (n : Int) (h0 : 0 ≤ n) (h1 : n ≤ 1048576) : CallsV Try.prog 10 [colsI l, iS n] [] (relQ (fun y : Int => y ≤ n ∧ (0 ≤ y → y + l.length ≤ n ∧ ∀ x ∈ l, x.md)) iS (fun _ => []) (fun _ => [])) := by
  refine funF_walk hTb Try.func10 rfl rfl Try.ntmps10 (by simp) (by simp) ?_
  have e1 : IntKind.i64.wrap (n - ((l.map encCol).length : Int)) = n - l.length := by rw [List.length_map]; exact wsub h0 h1 hl
  (conv => whnf); repeat' (first | (refine And.intro ?_ ?_ <;> ((try intro h) <;> (try simp only [Bool.not_true, Bool.not_false] at h) <;> first | exact absurd h Bool.false_ne_true | exact absurd h.symm Bool.false_ne_true | conv => whnf)) | (refine Need.mk ?_; kernel_rfl) | (refine Need.mk ⟨rfl, ?_⟩; decide))
  · rw [e1] at h
    refine endR [] _ rfl rfl rfl rfl rfl (LeS.refl _) rfl rfl ⟨by omega, fun hp => by omega⟩
  rw [e1] at h ⊢
  have h2 : (l.length : Int) ≤ n := by simp at h; omega
  refine VL.loopI hTb (fun (x : Nat × Int) => x.1 ≤ l.length ∧ 0 ≤ x.2 ∧ x.2 ≤ n - l.length ∧ ∀ j (hj : j < l.length), j < x.1 → (l[j]).md) (fun x => ⟨[(0, colsI l), (5, iS x.1), (1, iS x.2)], [], []⟩) (fun x => l.length - x.1) (0, n - l.length) ⟨Nat.zero_le _, by simp only; omega, by simp only; omega, fun j _ hj => absurd hj (Nat.not_lt_zero _)⟩
    (wk_to [] rfl rfl rfl ⟨rfl, rfl, rfl, trivial⟩ trivial) (fun x hx => ?_)
  obtain ⟨i, y0⟩ := x
  obtain ⟨hi, k0, k1, hs⟩ := hx
  simp only at hi k0 k1 hs
  (conv => whnf)
  refine And.intro (fun h3 => ?_) (fun h3 => ?_)
  · have hlt : i < l.length := by simpa using h3
    have hrow := rowCol hlt
    have hc := y_Col l[i] (hv _ (List.getElem_mem hlt)) y0 k0 (by omega)
    generalize hci : l[i] = ci at hrow hc
    obtain ⟨name, kind, need, once, ⟨d_k, d_n, d_t⟩⟩ := ci
    (conv => whnf); repeat' (first
    | (refine And.intro ?_ ?_ <;> ((try intro h) <;> (try simp only [Bool.not_true, Bool.not_false, decide_eq_true_eq, decide_eq_false_iff_not, Int.not_lt, Int.not_le, gt_iff_lt, ge_iff_le] at h) <;> first | exact absurd h Bool.false_ne_true | exact absurd h.symm Bool.false_ne_true | conv => whnf))
    | (refine VL.drawS hTb hMix (by kernel_rfl) (by kernel_rfl) (by kernel_rfl) ?_; conv => whnf)
    | (refine Need.mk ?_; kernel_rfl) | (refine Need.mk ⟨rfl, ?_⟩; decide)
    | (refine VR.op hTb rfl rfl (o_index_imm hTb rfl rfl rfl rfl rfl rfl rfl (by omega) (hrow)) rfl ?_; conv => whnf)
    | (refine DT.op hTb rfl (o_index_imm hTb rfl rfl rfl rfl rfl rfl rfl (by omega) (hrow)) rfl ?_; conv => whnf)
    | (refine VR.rel hTb rfl rfl (o_relN (hc) false [] (fun _ _ => ⟨by simp, fun h => by cases h⟩) rfl rfl rfl rfl rfl ⟨rfl, rfl, rfl, rfl⟩ rfl rfl) ?_; rintro y1 hy1; (try simp only at hy1); conv => whnf)
    | (refine DT.rel hTb rfl (o_relN (hc) false [] (fun _ _ => ⟨by simp, fun h => by cases h⟩) rfl rfl rfl rfl rfl ⟨rfl, rfl, rfl, rfl⟩ rfl rfl) [] (by kernel_rfl) (by kernel_rfl) ?_; rintro y1 hy1; (try simp only at hy1); refine And.intro rfl (And.intro rfl ?_); conv => whnf))
    · refine endR [] _ rfl rfl rfl rfl rfl (LeS.refl _) rfl rfl ⟨by omega, fun hp => by omega⟩
    · have h4 : 0 ≤ y1 := by first | omega | (simp at h; omega)
      refine ⟨(i + 1, y1), ⟨hlt, h4, by simp only; omega, fun j hj hj2 => ?_⟩, by show l.length - (i + 1) < l.length - i; omega, wk_to [] rfl rfl rfl ⟨rfl, congrArg (fun x => Slot.one (.g (.int .i64 x))) (wrap64' (by unfold maxLen; omega)), rfl, trivial⟩ trivial⟩
      by_cases hji : j = i
      · subst hji; rw [hci]; exact hy1.2 h4
      · exact hs j hj (by omega)
  · (conv => whnf)
    have hie : i = l.length := by simp at h3; omega
    subst hie
    refine endR [] _ rfl rfl rfl rfl rfl (LeS.refl _) rfl rfl ⟨by omega, fun hp => ⟨by omega, fun x hx => ?_⟩⟩
    obtain ⟨j, hj, rfl⟩ := List.getElem_of_mem hx
    exact hs j hj hj

theorem Change.md.ok {c : Change} (h : c.md) : c.ok := ⟨by have := h.1; unfold maxLen; omega, by have := h.2.1; unfold maxLen; omega, by have := h.2.2.1; unfold maxLen; omega, by have := h.2.2.2; show c.col.d.t.size ≤ maxLen; unfold maxLen; omega⟩
end Go.Vl

namespace Go.Vl
open Go Go.RowKit Go.Proofs
set_option maxRecDepth 100000
set_option linter.unusedSimpArgs false
set_option linter.unusedVariables false
set_option maxHeartbeats 8000000

end Go.Vl

namespace Go.Vl
open Go Go.RowKit Go.Proofs
set_option maxRecDepth 100000
set_option linter.unusedSimpArgs false
set_option linter.unusedVariables false
set_option maxHeartbeats 8000000

section
variable {P : Program} {T : Tab} {S : St} {o : Oper}
end

end Go.Vl

namespace Go.Vl
open Go Go.RowKit Go.Proofs
set_option maxRecDepth 100000
set_option linter.unusedSimpArgs false
set_option linter.unusedVariables false
set_option maxHeartbeats 8000000

end Go.Vl

namespace Go.Vl
open Go Go.RowKit Go.Proofs
set_option maxRecDepth 100000
set_option linter.unusedSimpArgs false
set_option linter.unusedVariables false
theorem rows_of {α : Type} {enc : α → List Leaf} {ok : α → Prop} : ∀ {rows : List (List Leaf)}, (∀ r ∈ rows, ∃ v : α, r = enc v ∧ ok v) → ∃ l : List α, rows = l.map enc ∧ ∀ v ∈ l, ok v
  | [], _ => ⟨[], rfl, by simp⟩
  | r :: rows, h => by
    obtain ⟨v, rfl, hv⟩ := h r (by simp)
    obtain ⟨l, rfl, hl⟩ := rows_of (rows := rows) fun r hr => h r (by simp [hr])
    exact ⟨v :: l, rfl, by simpa using ⟨hv, hl⟩⟩
theorem w_Val {m : Nat} {ls : List Leaf} (h : WT Try.prog (m + 2) 25 ls) : ∃ v : Val, ls = encVal v ∧ v.ok := by
  have key : ∀ {f0 f1 f2 : Field}, Try.prog.underlying 25 = some (.struct #[f0, f1, f2]) → Try.prog.cellsOf 25 = 3 → f0.offset = 0 → f1.offset = 1 → f2.offset = 2 → Try.prog.cellsOf f0.type = 1 → Try.prog.cellsOf f1.type = 1 → Try.prog.cellsOf f2.type = 1 →
      ∃ x0 x1 x2, ls = [x0, x1, x2] ∧ WT Try.prog (m + 1) f0.type [x0] ∧ WT Try.prog (m + 1) f1.type [x1] ∧ WT Try.prog (m + 1) f2.type [x2] := by
    intro f0 f1 f2 hu hc o0 o1 o2 s0 s1 s2
    obtain ⟨hl, hf⟩ := wt_struct hu h
    rw [hc] at hl
    match ls, hl with
    | [x0, x1, x2], _ =>
      have a0 := hf f0 (by simp)
      rw [o0, s0] at a0
      have a1 := hf f1 (by simp)
      rw [o1, s1] at a1
      have a2 := hf f2 (by simp)
      rw [o2, s2] at a2
      exact ⟨x0, x1, x2, rfl, a0, a1, a2⟩
  obtain ⟨x0, x1, x2, rfl, h0, h1, h2⟩ := key Try.underlying25 (by kernel_rfl) rfl rfl rfl (by kernel_rfl) (by kernel_rfl) (by kernel_rfl)
  obtain ⟨v0, e0, _⟩ := wt_int Try.underlying3 h0
  cases e0
  obtain ⟨v1, e1, _⟩ := wt_int Try.underlying3 h1
  cases e1
  obtain ⟨v2, e2, k2⟩ := wt_string Try.underlying9 h2
  cases e2
  exact ⟨⟨v0, v1, v2⟩, rfl, k2⟩
theorem w_Col {m : Nat} {ls : List Leaf} (h : WT Try.prog (m + 3) 27 ls) : ∃ v : Col, ls = encCol v ∧ v.ok := by
  have key : ∀ {f0 f1 f2 f3 f4 : Field}, Try.prog.underlying 27 = some (.struct #[f0, f1, f2, f3, f4]) → Try.prog.cellsOf 27 = 7 → f0.offset = 0 → f1.offset = 1 → f2.offset = 2 → f3.offset = 3 → f4.offset = 4 → Try.prog.cellsOf f0.type = 1 → Try.prog.cellsOf f1.type = 1 → Try.prog.cellsOf f2.type = 1 → Try.prog.cellsOf f3.type = 1 → Try.prog.cellsOf f4.type = 3 →
      ∃ x0 x1 x2 x3 x4 x5 x6, ls = [x0, x1, x2, x3, x4, x5, x6] ∧ WT Try.prog (m + 2) f0.type [x0] ∧ WT Try.prog (m + 2) f1.type [x1] ∧ WT Try.prog (m + 2) f2.type [x2] ∧ WT Try.prog (m + 2) f3.type [x3] ∧ WT Try.prog (m + 2) f4.type [x4, x5, x6] := by
    intro f0 f1 f2 f3 f4 hu hc o0 o1 o2 o3 o4 s0 s1 s2 s3 s4
    obtain ⟨hl, hf⟩ := wt_struct hu h
    rw [hc] at hl
    match ls, hl with
    | [x0, x1, x2, x3, x4, x5, x6], _ =>
      have a0 := hf f0 (by simp)
      rw [o0, s0] at a0
      have a1 := hf f1 (by simp)
      rw [o1, s1] at a1
      have a2 := hf f2 (by simp)
      rw [o2, s2] at a2
      have a3 := hf f3 (by simp)
      rw [o3, s3] at a3
      have a4 := hf f4 (by simp)
      rw [o4, s4] at a4
      exact ⟨x0, x1, x2, x3, x4, x5, x6, rfl, a0, a1, a2, a3, a4⟩
  obtain ⟨x0, x1, x2, x3, x4, x5, x6, rfl, h0, h1, h2, h3, h4⟩ := key Try.underlying27 (by kernel_rfl) rfl rfl rfl rfl rfl (by kernel_rfl) (by kernel_rfl) (by kernel_rfl) (by kernel_rfl) (by kernel_rfl)
  obtain ⟨v0, e0, k0⟩ := wt_string Try.underlying9 h0
  cases e0
  obtain ⟨v1, e1, _⟩ := wt_int Try.underlying3 h1
  cases e1
  obtain ⟨v2, e2⟩ := wt_bool Try.underlying4 h2
  cases e2
  obtain ⟨v3, e3⟩ := wt_bool Try.underlying4 h3
  cases e3
  obtain ⟨⟨c4k, c4n, c4t⟩, e4, k4⟩ := w_Val h4
  cases e4
  exact ⟨⟨v0, v1, v2, v3, ⟨c4k, c4n, c4t⟩⟩, rfl, ⟨k0, k4⟩⟩
theorem w_Cols {m : Nat} {ls : List Leaf} (h : WT Try.prog (m + 4) 23 ls) : ∃ l : List Col, ls = [.imm 7 (l.map encCol)] ∧ l.length ≤ maxLen ∧ ∀ x ∈ l, x.ok := by
  obtain ⟨rows, e, hl, hr⟩ := wt_slice Try.underlying23 h
  rw [show Try.prog.cellsOf 27 = 7 by kernel_rfl] at e
  obtain ⟨l, rfl, hok⟩ := rows_of (enc := encCol) (ok := Col.ok) fun r hrm => w_Col (hr r hrm).2
  exact ⟨l, e, by simpa using hl, hok⟩
end Go.Vl

namespace Go.Vl
open Go Go.RowKit Go.Proofs
set_option maxRecDepth 100000
set_option linter.unusedSimpArgs false
set_option linter.unusedVariables false
set_option maxHeartbeats 8000000

end Go.Vl

namespace Go.Vl
open Go Go.RowKit Go.Proofs
set_option maxRecDepth 100000
set_option linter.unusedSimpArgs false
set_option linter.unusedVariables false
set_option maxHeartbeats 8000000

end Go.Vl

namespace Go.Vl
open Go Go.RowKit Go.Proofs
set_option maxRecDepth 100000
set_option linter.unusedSimpArgs false
set_option linter.unusedVariables false
set_option maxHeartbeats 8000000

end Go.Vl

namespace Go.Vl
open Go Go.RowKit Go.Proofs
set_option maxRecDepth 100000
set_option linter.unusedSimpArgs false
set_option linter.unusedVariables false
set_option maxHeartbeats 8000000

end Go.Vl

namespace Go.Vl
open Go Go.RowKit Go.Proofs
set_option maxRecDepth 100000
set_option linter.unusedSimpArgs false
set_option linter.unusedVariables false
set_option maxHeartbeats 8000000

end Go.Vl

namespace Go.Vl
open Go Go.RowKit Go.Proofs
set_option maxRecDepth 100000
set_option linter.unusedSimpArgs false
set_option linter.unusedVariables false
set_option maxHeartbeats 8000000

theorem CallsV.leR {P : Program} {f : FuncId} {args : List Slot} {objs : List Ob} {s s' : Slot} {outs : List (Option Ob)} {news : List Ob} (h : CallsV P f args objs (funQ s outs news)) (e : LeS s s') : CallsV P f args objs (funQ s' outs news) :=
  ⟨h.1, fun w B D vals h1 h2 => (h.2 w B D vals h1 h2).mono fun _ _ ⟨v, s1, outs1, news1, B', he, ⟨e1, e2, e3⟩, hr, hs⟩ => ⟨v, s', outs1, news1, B', he, ⟨rfl, e2, e3⟩, hr, e.rep (e1 ▸ hs)⟩⟩

def zTab : VTable := ⟨[], [], [], 0⟩
abbrev nilTab : Slot := .agg [.g (.slice none 0 0), .g (.slice none 0 0), .g (.slice none 0 0), .g (.int .i64 0)]
end Go.Vl

namespace Go.Vl
open Go Go.RowKit Go.Proofs
set_option maxRecDepth 100000
set_option linter.unusedSimpArgs false
set_option linter.unusedVariables false
set_option maxHeartbeats 8000000

abbrev nilG : Leaf := .g (.slice none 0 0)
theorem c_markCols0 (k : Int) : CallsV Try.prog 16 [.one nilG, iS k] [] (pureQ (iS k)) := by
  refine pure_walk hTb Try.func16 rfl rfl Try.ntmps16 (by simp) ?_
  (conv => whnf); repeat' (first | (refine And.intro ?_ ?_ <;> ((try intro h) <;> (try simp only [Bool.not_true, Bool.not_false] at h) <;> first | exact absurd h Bool.false_ne_true | exact absurd h.symm Bool.false_ne_true | conv => whnf)) | (refine Need.mk ?_; kernel_rfl) | (refine Need.mk ⟨rfl, ?_⟩; decide))
  refine VL.loopI hTb (fun i => i = 0) (fun _ => ⟨[(0, .one nilG), (1, iS k), (5, iS (0 : Nat))], [], []⟩) (fun i => i) 0 rfl (wk_to [] rfl rfl rfl ⟨rfl, rfl, rfl, trivial⟩ trivial) (fun i hi => ?_)
  (conv => whnf)
  refine And.intro (fun h2 => absurd h2 (by simp)) (fun h2 => ?_)
  (conv => whnf)
  rfl
theorem c_markChanges0 (k : Int) : CallsV Try.prog 50 [.one nilG, iS k] [] (pureQ (iS k)) := by
  refine pure_walk hTb Try.func50 rfl rfl Try.ntmps50 (by simp) ?_
  (conv => whnf); repeat' (first | (refine And.intro ?_ ?_ <;> ((try intro h) <;> (try simp only [Bool.not_true, Bool.not_false] at h) <;> first | exact absurd h Bool.false_ne_true | exact absurd h.symm Bool.false_ne_true | conv => whnf)) | (refine Need.mk ?_; kernel_rfl) | (refine Need.mk ⟨rfl, ?_⟩; decide))
  refine VL.loopI hTb (fun i => i = 0) (fun _ => ⟨[(0, .one nilG), (1, iS k), (5, iS (0 : Nat))], [], []⟩) (fun i => i) 0 rfl (wk_to [] rfl rfl rfl ⟨rfl, rfl, rfl, trivial⟩ trivial) (fun i hi => ?_)
  (conv => whnf)
  refine And.intro (fun h2 => absurd h2 (by simp)) (fun h2 => ?_)
  (conv => whnf)
  rfl
theorem c_markRows0 (k : Int) : CallsV Try.prog 51 [.one nilG, iS k] [] (pureQ (iS k)) := by
  refine pure_walk hTb Try.func51 rfl rfl Try.ntmps51 (by simp) ?_
  (conv => whnf); repeat' (first | (refine And.intro ?_ ?_ <;> ((try intro h) <;> (try simp only [Bool.not_true, Bool.not_false] at h) <;> first | exact absurd h Bool.false_ne_true | exact absurd h.symm Bool.false_ne_true | conv => whnf)) | (refine Need.mk ?_; kernel_rfl) | (refine Need.mk ⟨rfl, ?_⟩; decide))
  refine VL.loopI hTb (fun i => i = 0) (fun _ => ⟨[(0, .one nilG), (1, iS k), (5, iS (0 : Nat))], [], []⟩) (fun i => i) 0 rfl (wk_to [] rfl rfl rfl ⟨rfl, rfl, rfl, trivial⟩ trivial) (fun i hi => ?_)
  (conv => whnf)
  refine And.intro (fun h2 => absurd h2 (by simp)) (fun h2 => ?_)
  (conv => whnf)
  rfl
theorem c_markTab0 (k : Int) (hk : 0 ≤ k) : CallsV Try.prog 17 [nilTab, iS k] [] (pureQ (iS k)) := by
  have m1 := c_markCols0 k
  have m2 := c_markChanges0 k
  have m3 := c_markRows0 k
  refine pure_walk hTb Try.func17 rfl rfl Try.ntmps17 (by simp) ?_
  (conv => whnf); repeat' (first
    | (refine And.intro ?_ ?_ <;> ((try intro h) <;> (try simp only [Bool.not_true, Bool.not_false, decide_eq_true_eq, decide_eq_false_iff_not, Int.not_lt, Int.not_le, gt_iff_lt, ge_iff_le] at h) <;> first | exact absurd h Bool.false_ne_true | exact absurd h.symm Bool.false_ne_true | conv => whnf))
    | (refine VL.drawS hTb hMix (by kernel_rfl) (by kernel_rfl) (by kernel_rfl) ?_; conv => whnf)
    | (refine Need.mk ?_; kernel_rfl) | (refine Need.mk ⟨rfl, ?_⟩; decide)
    | (refine VR.pure hTb rfl rfl (o_purN (m1) rfl rfl rfl ⟨rfl, rfl, rfl, rfl⟩ rfl) ?_; conv => whnf)
    | (refine DT.pure hTb rfl (o_purN (m1) rfl rfl rfl ⟨rfl, rfl, rfl, rfl⟩ rfl) ?_; conv => whnf)
    | (refine VR.pure hTb rfl rfl (o_purN (m2) rfl rfl rfl ⟨rfl, rfl, rfl, rfl⟩ rfl) ?_; conv => whnf)
    | (refine DT.pure hTb rfl (o_purN (m2) rfl rfl rfl ⟨rfl, rfl, rfl, rfl⟩ rfl) ?_; conv => whnf)
    | (refine VR.pure hTb rfl rfl (o_purN (m3) rfl rfl rfl ⟨rfl, rfl, rfl, rfl⟩ rfl) ?_; conv => whnf)
    | (refine DT.pure hTb rfl (o_purN (m3) rfl rfl rfl ⟨rfl, rfl, rfl, rfl⟩ rfl) ?_; conv => whnf))
  rfl
theorem c_heldCols0 (k : Int) : CallsV Try.prog 52 [.one nilG, iS k] [] (pureQ (iS k)) := by
  refine pure_walk hTb Try.func52 rfl rfl Try.ntmps52 (by simp) ?_
  (conv => whnf); repeat' (first | (refine And.intro ?_ ?_ <;> ((try intro h) <;> (try simp only [Bool.not_true, Bool.not_false] at h) <;> first | exact absurd h Bool.false_ne_true | exact absurd h.symm Bool.false_ne_true | conv => whnf)) | (refine Need.mk ?_; kernel_rfl) | (refine Need.mk ⟨rfl, ?_⟩; decide))
  refine VL.loopI hTb (fun i => i = 0) (fun _ => ⟨[(0, .one nilG), (1, iS k), (5, iS (0 : Nat))], [], []⟩) (fun i => i) 0 rfl (wk_to [] rfl rfl rfl ⟨rfl, rfl, rfl, trivial⟩ trivial) (fun i hi => ?_)
  (conv => whnf)
  refine And.intro (fun h2 => absurd h2 (by simp)) (fun h2 => ?_)
  (conv => whnf)
  rfl
theorem c_heldChanges0 (k : Int) : CallsV Try.prog 53 [.one nilG, iS k] [] (pureQ (iS k)) := by
  refine pure_walk hTb Try.func53 rfl rfl Try.ntmps53 (by simp) ?_
  (conv => whnf); repeat' (first | (refine And.intro ?_ ?_ <;> ((try intro h) <;> (try simp only [Bool.not_true, Bool.not_false] at h) <;> first | exact absurd h Bool.false_ne_true | exact absurd h.symm Bool.false_ne_true | conv => whnf)) | (refine Need.mk ?_; kernel_rfl) | (refine Need.mk ⟨rfl, ?_⟩; decide))
  refine VL.loopI hTb (fun i => i = 0) (fun _ => ⟨[(0, .one nilG), (1, iS k), (5, iS (0 : Nat))], [], []⟩) (fun i => i) 0 rfl (wk_to [] rfl rfl rfl ⟨rfl, rfl, rfl, trivial⟩ trivial) (fun i hi => ?_)
  (conv => whnf)
  refine And.intro (fun h2 => absurd h2 (by simp)) (fun h2 => ?_)
  (conv => whnf)
  rfl
theorem c_heldRows0 (k : Int) : CallsV Try.prog 54 [.one nilG, iS k] [] (pureQ (iS k)) := by
  refine pure_walk hTb Try.func54 rfl rfl Try.ntmps54 (by simp) ?_
  (conv => whnf); repeat' (first | (refine And.intro ?_ ?_ <;> ((try intro h) <;> (try simp only [Bool.not_true, Bool.not_false] at h) <;> first | exact absurd h Bool.false_ne_true | exact absurd h.symm Bool.false_ne_true | conv => whnf)) | (refine Need.mk ?_; kernel_rfl) | (refine Need.mk ⟨rfl, ?_⟩; decide))
  refine VL.loopI hTb (fun i => i = 0) (fun _ => ⟨[(0, .one nilG), (1, iS k), (5, iS (0 : Nat))], [], []⟩) (fun i => i) 0 rfl (wk_to [] rfl rfl rfl ⟨rfl, rfl, rfl, trivial⟩ trivial) (fun i hi => ?_)
  (conv => whnf)
  refine And.intro (fun h2 => absurd h2 (by simp)) (fun h2 => ?_)
  (conv => whnf)
  rfl
theorem c_heldTab0 (k : Int) (hk : ¬ k < 0) : CallsV Try.prog 18 [nilTab, iS k] [] (pureQ (iS k)) := by
  have m1 := c_heldCols0 k
  have m2 := c_heldChanges0 k
  have m3 := c_heldRows0 k
  refine pure_walk hTb Try.func18 rfl rfl Try.ntmps18 (by simp) ?_
  (conv => whnf); repeat' (first
    | (exact absurd h hk)
    | (refine And.intro ?_ ?_ <;> ((try intro h) <;> (try simp only [Bool.not_true, Bool.not_false, decide_eq_true_eq, decide_eq_false_iff_not, Int.not_lt, Int.not_le, gt_iff_lt, ge_iff_le] at h) <;> first | exact absurd h Bool.false_ne_true | exact absurd h.symm Bool.false_ne_true | conv => whnf))
    | (refine VL.drawS hTb hMix (by kernel_rfl) (by kernel_rfl) (by kernel_rfl) ?_; conv => whnf)
    | (refine Need.mk ?_; kernel_rfl) | (refine Need.mk ⟨rfl, ?_⟩; decide)
    | (refine VR.pure hTb rfl rfl (o_purN (m1) rfl rfl rfl ⟨rfl, rfl, rfl, rfl⟩ rfl) ?_; conv => whnf)
    | (refine DT.pure hTb rfl (o_purN (m1) rfl rfl rfl ⟨rfl, rfl, rfl, rfl⟩ rfl) ?_; conv => whnf)
    | (refine VR.pure hTb rfl rfl (o_purN (m2) rfl rfl rfl ⟨rfl, rfl, rfl, rfl⟩ rfl) ?_; conv => whnf)
    | (refine DT.pure hTb rfl (o_purN (m2) rfl rfl rfl ⟨rfl, rfl, rfl, rfl⟩ rfl) ?_; conv => whnf)
    | (refine VR.pure hTb rfl rfl (o_purN (m3) rfl rfl rfl ⟨rfl, rfl, rfl, rfl⟩ rfl) ?_; conv => whnf)
    | (refine DT.pure hTb rfl (o_purN (m3) rfl rfl rfl ⟨rfl, rfl, rfl, rfl⟩ rfl) ?_; conv => whnf))
  rfl
theorem zTab_ok : zTab.ok := ⟨⟨by decide, fun x hx => by cases hx⟩, ⟨by decide, fun x hx => by cases hx⟩, ⟨by decide, fun x hx => by cases hx⟩⟩
end Go.Vl

namespace Go.Vl
open Go Go.RowKit Go.Proofs
set_option maxRecDepth 100000
set_option linter.unusedSimpArgs false
set_option linter.unusedVariables false
set_option maxHeartbeats 8000000

def tNewT (cs : List Col) : VTable := if shapeOk cs = true then ⟨cs, [], [], 1⟩ else zTab
theorem c_implTabNewNo (cs : List Col) (hl : cs.length ≤ maxLen) (ho : ∀ c ∈ cs, c.ok) (hk : shapeOk cs = false) : CallsV Try.prog 13 [colsI cs] [] (pureQ nilTab) := by
  have c1 := c_implShapeOk cs hl ho
  rw [hk] at c1
  refine pureF_walk hTb Try.func13 rfl rfl Try.ntmps13 (by simp) ?_
  (conv => whnf); repeat' (first
    | (refine And.intro ?_ ?_ <;> ((try intro h) <;> (try simp only [Bool.not_true, Bool.not_false, decide_eq_true_eq, decide_eq_false_iff_not, Int.not_lt, Int.not_le, gt_iff_lt, ge_iff_le] at h) <;> first | exact absurd h Bool.false_ne_true | exact absurd h.symm Bool.false_ne_true | conv => whnf))
    | (refine VL.drawS hTb hMix (by kernel_rfl) (by kernel_rfl) (by kernel_rfl) ?_; conv => whnf)
    | (refine Need.mk ?_; kernel_rfl) | (refine Need.mk ⟨rfl, ?_⟩; decide)
    | (refine VR.pure hTb rfl rfl (o_purN (c1) rfl rfl rfl ⟨rfl, rfl, rfl, rfl⟩ rfl) ?_; conv => whnf)
    | (refine DT.pure hTb rfl (o_purN (c1) rfl rfl rfl ⟨rfl, rfl, rfl, rfl⟩ rfl) ?_; conv => whnf))
  exact endFz rfl rfl rfl
theorem c_implTabNewYes (cs : List Col) (hl : cs.length ≤ 2000000) (ho : ∀ c ∈ cs, c.ok) (hk : shapeOk cs = true) : CallsV Try.prog 13 [colsI cs] []
    (funQ (.agg [.own 0 0 cs.length, nilG, nilG, .g (.int .i64 1)]) [] [.arr 40 7 (cs.map encCol)]) := by
  have c1 := c_implShapeOk cs (by unfold maxLen; omega) ho
  rw [hk] at c1
  have cC := c_cloneCol cs hl
  refine funF_walk hTb Try.func13 rfl rfl Try.ntmps13 (by simp) (by simp) ?_
  (conv => whnf); repeat' (first
    | (refine And.intro ?_ ?_ <;> ((try intro h) <;> (try simp only [Bool.not_true, Bool.not_false, decide_eq_true_eq, decide_eq_false_iff_not, Int.not_lt, Int.not_le, gt_iff_lt, ge_iff_le] at h) <;> first | exact absurd h Bool.false_ne_true | exact absurd h.symm Bool.false_ne_true | conv => whnf))
    | (refine VL.drawS hTb hMix (by kernel_rfl) (by kernel_rfl) (by kernel_rfl) ?_; conv => whnf)
    | (refine Need.mk ?_; kernel_rfl) | (refine Need.mk ⟨rfl, ?_⟩; decide)
    | (refine VR.pure hTb rfl rfl (o_purN (c1) rfl rfl rfl ⟨rfl, rfl, rfl, rfl⟩ rfl) ?_; conv => whnf)
    | (refine DT.pure hTb rfl (o_purN (c1) rfl rfl rfl ⟨rfl, rfl, rfl, rfl⟩ rfl) ?_; conv => whnf)
    | (refine VR.fun hTb rfl rfl (o_funN (cC) false [] (fun h => by cases h) (by simp) rfl rfl rfl rfl rfl ⟨rfl, rfl, rfl, rfl⟩ rfl rfl) ?_; conv => whnf)
    | (refine DT.fun hTb rfl (o_funN (cC) false [] (fun h => by cases h) (by simp) rfl rfl rfl rfl rfl ⟨rfl, rfl, rfl, rfl⟩ rfl rfl) rfl ?_; conv => whnf))
  exact endW [1032] rfl rfl rfl rfl rfl (LeS.refl _) rfl rfl
theorem c_specTabNew (cs : List Col) (hl : cs.length ≤ 2000000) (ho : ∀ c ∈ cs, c.ok) : CallsV Try.prog 11 [colsI cs] [] (pureQ (.agg (encVTable (tNewT cs)))) := by
  have c1 := c_specShapeOk cs (by unfold maxLen; omega) ho
  unfold tNewT
  cases hk : shapeOk cs with
  | false =>
    rw [hk] at c1
    rw [if_neg (by simp)]
    have h : CallsV Try.prog 11 [colsI cs] [] (pureQ nilTab) := by
      refine pureF_walk hTb Try.func11 rfl rfl Try.ntmps11 (by simp) ?_
      (conv => whnf); repeat' (first
    | (refine And.intro ?_ ?_ <;> ((try intro h) <;> (try simp only [Bool.not_true, Bool.not_false, decide_eq_true_eq, decide_eq_false_iff_not, Int.not_lt, Int.not_le, gt_iff_lt, ge_iff_le] at h) <;> first | exact absurd h Bool.false_ne_true | exact absurd h.symm Bool.false_ne_true | conv => whnf))
    | (refine VL.drawS hTb hMix (by kernel_rfl) (by kernel_rfl) (by kernel_rfl) ?_; conv => whnf)
    | (refine Need.mk ?_; kernel_rfl) | (refine Need.mk ⟨rfl, ?_⟩; decide)
    | (refine VR.pure hTb rfl rfl (o_purN (c1) rfl rfl rfl ⟨rfl, rfl, rfl, rfl⟩ rfl) ?_; conv => whnf)
    | (refine DT.pure hTb rfl (o_purN (c1) rfl rfl rfl ⟨rfl, rfl, rfl, rfl⟩ rfl) ?_; conv => whnf))
      exact endFz rfl rfl rfl
    exact CallsV.leR h ⟨.inr ⟨7, rfl, rfl⟩, .inr ⟨10, rfl, rfl⟩, .inr ⟨3, rfl, rfl⟩, .inl rfl, trivial⟩
  | true =>
    rw [hk] at c1
    rw [if_pos rfl]
    have h : CallsV Try.prog 11 [colsI cs] [] (pureQ (.agg [.imm 7 (cs.map encCol), nilG, nilG, .g (.int .i64 1)])) := by
      refine pureF_walk hTb Try.func11 rfl rfl Try.ntmps11 (by simp) ?_
      (conv => whnf); repeat' (first
    | (refine And.intro ?_ ?_ <;> ((try intro h) <;> (try simp only [Bool.not_true, Bool.not_false, decide_eq_true_eq, decide_eq_false_iff_not, Int.not_lt, Int.not_le, gt_iff_lt, ge_iff_le] at h) <;> first | exact absurd h Bool.false_ne_true | exact absurd h.symm Bool.false_ne_true | conv => whnf))
    | (refine VL.drawS hTb hMix (by kernel_rfl) (by kernel_rfl) (by kernel_rfl) ?_; conv => whnf)
    | (refine Need.mk ?_; kernel_rfl) | (refine Need.mk ⟨rfl, ?_⟩; decide)
    | (refine VR.pure hTb rfl rfl (o_purN (c1) rfl rfl rfl ⟨rfl, rfl, rfl, rfl⟩ rfl) ?_; conv => whnf)
    | (refine DT.pure hTb rfl (o_purN (c1) rfl rfl rfl ⟨rfl, rfl, rfl, rfl⟩ rfl) ?_; conv => whnf)
    | (refine VR.opk hTb rfl rfl (o_app0 (f := encCol) (m := cs) (q := 109) hTb rfl rfl rfl rfl rfl rfl rfl rfl rfl rfl (by omega) (by show _ * 64 ≤ _; omega) (by unfold maxLen; omega)) ?_; conv => whnf)
    | (refine DT.opk hTb rfl (o_app0 (f := encCol) (m := cs) (q := 109) hTb rfl rfl rfl rfl rfl rfl rfl rfl rfl rfl (by omega) (by show _ * 64 ≤ _; omega) (by unfold maxLen; omega)) ?_; conv => whnf))
      refine endFz rfl rfl ?_
      show Slot.agg [.imm 7 (((cs.map encCol).drop 0).take cs.length), _, _, _] = _
      rw [fzC]; rfl
    exact CallsV.leR h ⟨.inl rfl, .inr ⟨10, rfl, rfl⟩, .inr ⟨3, rfl, rfl⟩, .inl rfl, trivial⟩
theorem c_markTabC (L : List Col) (next : Int) (k : Nat) (hf : L.length ≤ 3000000) (hk1 : 1 ≤ k) (hk : k ≤ 500000000) :
    CallsV Try.prog 17 [.agg [.own 0 0 L.length, nilG, nilG, .g (.int .i64 next)], iS k] [.arr 40 7 (L.map encCol)]
      (funQ (iS ((k + 7 * L.length : Nat) : Int)) [some (.arr 40 7 ((mkCols L.length k).map encCol))] []) := by
  have mC := c_markCols L k hf hk1 (by omega)
  have mH := c_markChanges0 ((k + 7 * L.length : Nat) : Int)
  have mR := c_markRows0 ((k + 7 * L.length : Nat) : Int)
  refine funF_walk hTb Try.func17 rfl rfl Try.ntmps17 (by simp) (by simp) ?_
  (conv => whnf); repeat' (first
    | (refine And.intro ?_ ?_ <;> ((try intro h) <;> (try simp only [Bool.not_true, Bool.not_false, decide_eq_true_eq, decide_eq_false_iff_not, Int.not_lt, Int.not_le, gt_iff_lt, ge_iff_le] at h) <;> first | exact absurd h Bool.false_ne_true | exact absurd h.symm Bool.false_ne_true | conv => whnf))
    | (refine VL.drawS hTb hMix (by kernel_rfl) (by kernel_rfl) (by kernel_rfl) ?_; conv => whnf)
    | (refine Need.mk ?_; kernel_rfl) | (refine Need.mk ⟨rfl, ?_⟩; decide)
    | (refine VR.fun hTb rfl rfl (o_funN (mC) false [0] (fun h => by cases h) (by simp) rfl rfl rfl rfl rfl ⟨rfl, rfl, rfl, rfl⟩ rfl rfl) ?_; conv => whnf)
    | (refine DT.fun hTb rfl (o_funN (mC) false [0] (fun h => by cases h) (by simp) rfl rfl rfl rfl rfl ⟨rfl, rfl, rfl, rfl⟩ rfl rfl) rfl ?_; conv => whnf)
    | (refine VR.pure hTb rfl rfl (o_purN (mH) rfl rfl rfl ⟨rfl, rfl, rfl, rfl⟩ rfl) ?_; conv => whnf)
    | (refine DT.pure hTb rfl (o_purN (mH) rfl rfl rfl ⟨rfl, rfl, rfl, rfl⟩ rfl) ?_; conv => whnf)
    | (refine VR.pure hTb rfl rfl (o_purN (mR) rfl rfl rfl ⟨rfl, rfl, rfl, rfl⟩ rfl) ?_; conv => whnf)
    | (refine DT.pure hTb rfl (o_purN (mR) rfl rfl rfl ⟨rfl, rfl, rfl, rfl⟩ rfl) ?_; conv => whnf))
  exact endW [] rfl rfl rfl rfl rfl (LeS.refl _) rfl rfl
theorem c_heldTabC (n : Nat) (next : Int) (k : Nat) (hf : n ≤ 3000000) (hk1 : 1 ≤ k) (hk : k ≤ 500000000) :
    CallsV Try.prog 18 [.agg [.imm 7 ((mkCols n k).map encCol), nilG, nilG, .g (.int .i64 next)], iS k] [] (pureQ (iS ((k + 7 * n : Nat) : Int))) := by
  have mC := c_heldCols n k hf hk1 (by omega)
  have mH := c_heldChanges0 ((k + 7 * n : Nat) : Int)
  have mR := c_heldRows0 ((k + 7 * n : Nat) : Int)
  have n1 : ¬ (((k + 7 * n : Nat) : Int) < 0) := by omega
  refine pure_walk hTb Try.func18 rfl rfl Try.ntmps18 (by simp) ?_
  (conv => whnf); repeat' (first
    | (exact absurd h n1)
    | (refine And.intro ?_ ?_ <;> ((try intro h) <;> (try simp only [Bool.not_true, Bool.not_false, decide_eq_true_eq, decide_eq_false_iff_not, Int.not_lt, Int.not_le, gt_iff_lt, ge_iff_le] at h) <;> first | exact absurd h Bool.false_ne_true | exact absurd h.symm Bool.false_ne_true | conv => whnf))
    | (refine VL.drawS hTb hMix (by kernel_rfl) (by kernel_rfl) (by kernel_rfl) ?_; conv => whnf)
    | (refine Need.mk ?_; kernel_rfl) | (refine Need.mk ⟨rfl, ?_⟩; decide)
    | (refine VR.pure hTb rfl rfl (o_purN (mC) rfl rfl rfl ⟨rfl, rfl, rfl, rfl⟩ rfl) ?_; conv => whnf)
    | (refine DT.pure hTb rfl (o_purN (mC) rfl rfl rfl ⟨rfl, rfl, rfl, rfl⟩ rfl) ?_; conv => whnf)
    | (refine VR.pure hTb rfl rfl (o_purN (mH) rfl rfl rfl ⟨rfl, rfl, rfl, rfl⟩ rfl) ?_; conv => whnf)
    | (refine DT.pure hTb rfl (o_purN (mH) rfl rfl rfl ⟨rfl, rfl, rfl, rfl⟩ rfl) ?_; conv => whnf)
    | (refine VR.pure hTb rfl rfl (o_purN (mR) rfl rfl rfl ⟨rfl, rfl, rfl, rfl⟩ rfl) ?_; conv => whnf)
    | (refine DT.pure hTb rfl (o_purN (mR) rfl rfl rfl ⟨rfl, rfl, rfl, rfl⟩ rfl) ?_; conv => whnf))
  rfl
end Go.Vl
