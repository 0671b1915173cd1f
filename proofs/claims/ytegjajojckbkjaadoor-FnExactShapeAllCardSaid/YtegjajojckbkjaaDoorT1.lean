/- The types of what is handed in, as leaves. Printed by our own gends.py. -/
import Derived.Test.YtegjajojckbkjaaDoorWj
import Derived.Test.YtegjajojckbkjaaDoorE0
namespace Go.Vl
open Go Go.RowKit Go.Proofs
set_option maxRecDepth 100000
set_option linter.unusedSimpArgs false
set_option linter.unusedVariables false
theorem rows_of {α : Type} {enc : α → List Leaf} {ok : α → Prop} : ∀ {rows : List (List Leaf)}, (∀ r ∈ rows, ∃ v : α, r = enc v ∧ ok v) → ∃ l : List α, rows = l.map enc ∧ ∀ v ∈ l, ok v
  | [], _ => ⟨[], rfl, by simp⟩
  | r :: rows, h => by
    obtain ⟨v, rfl, hv⟩ := h r (by simp)
    obtain ⟨l, rfl, hl⟩ := rows_of (rows := rows) fun r hr => h r (by simp [hr])
    exact ⟨v :: l, rfl, by simpa using ⟨hv, hl⟩⟩
theorem w_Val {m : Nat} {ls : List Leaf} (h : WT Tryd.prog (m + 2) 49 ls) : ∃ v : Val, ls = encVal v ∧ v.ok := by
  have key : ∀ {f0 f1 f2 : Field}, Tryd.prog.underlying 49 = some (.struct #[f0, f1, f2]) → Tryd.prog.cellsOf 49 = 3 → f0.offset = 0 → f1.offset = 1 → f2.offset = 2 → Tryd.prog.cellsOf f0.type = 1 → Tryd.prog.cellsOf f1.type = 1 → Tryd.prog.cellsOf f2.type = 1 →
      ∃ x0 x1 x2, ls = [x0, x1, x2] ∧ WT Tryd.prog (m + 1) f0.type [x0] ∧ WT Tryd.prog (m + 1) f1.type [x1] ∧ WT Tryd.prog (m + 1) f2.type [x2] := by
    intro f0 f1 f2 hu hc o0 o1 o2 s0 s1 s2
    obtain ⟨hl, hf⟩ := wt_struct hu h
    rw [hc] at hl
    match ls, hl with
    | [x0, x1, x2], _ =>
      have a0 := hf f0 (by simp)
      rw [o0, s0] at a0
      have a1 := hf f1 (by simp)
      rw [o1, s1] at a1
      have a2 := hf f2 (by simp)
      rw [o2, s2] at a2
      exact ⟨x0, x1, x2, rfl, a0, a1, a2⟩
  obtain ⟨x0, x1, x2, rfl, h0, h1, h2⟩ := key Tryd.underlying49 (by kernel_rfl) rfl rfl rfl (by kernel_rfl) (by kernel_rfl) (by kernel_rfl)
  obtain ⟨v0, e0, _⟩ := wt_int Tryd.underlying3 h0
  cases e0
  obtain ⟨v1, e1, _⟩ := wt_int Tryd.underlying3 h1
  cases e1
  obtain ⟨v2, e2, k2⟩ := wt_string Tryd.underlying9 h2
  cases e2
  exact ⟨⟨v0, v1, v2⟩, rfl, k2⟩
theorem w_Vals {m : Nat} {ls : List Leaf} (h : WT Tryd.prog (m + 3) 64 ls) : ∃ l : List Val, ls = [.imm 3 (l.map encVal)] ∧ l.length ≤ maxLen ∧ ∀ x ∈ l, x.ok := by
  obtain ⟨rows, e, hl, hr⟩ := wt_slice Tryd.underlying64 h
  rw [show Tryd.prog.cellsOf 49 = 3 by kernel_rfl] at e
  obtain ⟨l, rfl, hok⟩ := rows_of (enc := encVal) (ok := Val.ok) fun r hrm => w_Val (hr r hrm).2
  exact ⟨l, e, by simpa using hl, hok⟩
theorem w_Col {m : Nat} {ls : List Leaf} (h : WT Tryd.prog (m + 3) 51 ls) : ∃ v : Col, ls = encCol v ∧ v.ok := by
  have key : ∀ {f0 f1 f2 f3 f4 : Field}, Tryd.prog.underlying 51 = some (.struct #[f0, f1, f2, f3, f4]) → Tryd.prog.cellsOf 51 = 7 → f0.offset = 0 → f1.offset = 1 → f2.offset = 2 → f3.offset = 3 → f4.offset = 4 → Tryd.prog.cellsOf f0.type = 1 → Tryd.prog.cellsOf f1.type = 1 → Tryd.prog.cellsOf f2.type = 1 → Tryd.prog.cellsOf f3.type = 1 → Tryd.prog.cellsOf f4.type = 3 →
      ∃ x0 x1 x2 x3 x4 x5 x6, ls = [x0, x1, x2, x3, x4, x5, x6] ∧ WT Tryd.prog (m + 2) f0.type [x0] ∧ WT Tryd.prog (m + 2) f1.type [x1] ∧ WT Tryd.prog (m + 2) f2.type [x2] ∧ WT Tryd.prog (m + 2) f3.type [x3] ∧ WT Tryd.prog (m + 2) f4.type [x4, x5, x6] := by
    intro f0 f1 f2 f3 f4 hu hc o0 o1 o2 o3 o4 s0 s1 s2 s3 s4
    obtain ⟨hl, hf⟩ := wt_struct hu h
    rw [hc] at hl
    match ls, hl with
    | [x0, x1, x2, x3, x4, x5, x6], _ =>
      have a0 := hf f0 (by simp)
      rw [o0, s0] at a0
      have a1 := hf f1 (by simp)
      rw [o1, s1] at a1
      have a2 := hf f2 (by simp)
      rw [o2, s2] at a2
      have a3 := hf f3 (by simp)
      rw [o3, s3] at a3
      have a4 := hf f4 (by simp)
      rw [o4, s4] at a4
      exact ⟨x0, x1, x2, x3, x4, x5, x6, rfl, a0, a1, a2, a3, a4⟩
  obtain ⟨x0, x1, x2, x3, x4, x5, x6, rfl, h0, h1, h2, h3, h4⟩ := key Tryd.underlying51 (by kernel_rfl) rfl rfl rfl rfl rfl (by kernel_rfl) (by kernel_rfl) (by kernel_rfl) (by kernel_rfl) (by kernel_rfl)
  obtain ⟨v0, e0, k0⟩ := wt_string Tryd.underlying9 h0
  cases e0
  obtain ⟨v1, e1, _⟩ := wt_int Tryd.underlying3 h1
  cases e1
  obtain ⟨v2, e2⟩ := wt_bool Tryd.underlying4 h2
  cases e2
  obtain ⟨v3, e3⟩ := wt_bool Tryd.underlying4 h3
  cases e3
  obtain ⟨⟨c4k, c4n, c4t⟩, e4, k4⟩ := w_Val h4
  cases e4
  exact ⟨⟨v0, v1, v2, v3, ⟨c4k, c4n, c4t⟩⟩, rfl, ⟨k0, k4⟩⟩
theorem w_Cols {m : Nat} {ls : List Leaf} (h : WT Tryd.prog (m + 4) 48 ls) : ∃ l : List Col, ls = [.imm 7 (l.map encCol)] ∧ l.length ≤ maxLen ∧ ∀ x ∈ l, x.ok := by
  obtain ⟨rows, e, hl, hr⟩ := wt_slice Tryd.underlying48 h
  rw [show Tryd.prog.cellsOf 51 = 7 by kernel_rfl] at e
  obtain ⟨l, rfl, hok⟩ := rows_of (enc := encCol) (ok := Col.ok) fun r hrm => w_Col (hr r hrm).2
  exact ⟨l, e, by simpa using hl, hok⟩
theorem w_Change {m : Nat} {ls : List Leaf} (h : WT Tryd.prog (m + 4) 53 ls) : ∃ v : Change, ls = encChange v ∧ v.ok := by
  have key : ∀ {f0 f1 f2 f3 : Field}, Tryd.prog.underlying 53 = some (.struct #[f0, f1, f2, f3]) → Tryd.prog.cellsOf 53 = 10 → f0.offset = 0 → f1.offset = 1 → f2.offset = 2 → f3.offset = 3 → Tryd.prog.cellsOf f0.type = 1 → Tryd.prog.cellsOf f1.type = 1 → Tryd.prog.cellsOf f2.type = 1 → Tryd.prog.cellsOf f3.type = 7 →
      ∃ x0 x1 x2 x3 x4 x5 x6 x7 x8 x9, ls = [x0, x1, x2, x3, x4, x5, x6, x7, x8, x9] ∧ WT Tryd.prog (m + 3) f0.type [x0] ∧ WT Tryd.prog (m + 3) f1.type [x1] ∧ WT Tryd.prog (m + 3) f2.type [x2] ∧ WT Tryd.prog (m + 3) f3.type [x3, x4, x5, x6, x7, x8, x9] := by
    intro f0 f1 f2 f3 hu hc o0 o1 o2 o3 s0 s1 s2 s3
    obtain ⟨hl, hf⟩ := wt_struct hu h
    rw [hc] at hl
    match ls, hl with
    | [x0, x1, x2, x3, x4, x5, x6, x7, x8, x9], _ =>
      have a0 := hf f0 (by simp)
      rw [o0, s0] at a0
      have a1 := hf f1 (by simp)
      rw [o1, s1] at a1
      have a2 := hf f2 (by simp)
      rw [o2, s2] at a2
      have a3 := hf f3 (by simp)
      rw [o3, s3] at a3
      exact ⟨x0, x1, x2, x3, x4, x5, x6, x7, x8, x9, rfl, a0, a1, a2, a3⟩
  obtain ⟨x0, x1, x2, x3, x4, x5, x6, x7, x8, x9, rfl, h0, h1, h2, h3⟩ := key Tryd.underlying53 (by kernel_rfl) rfl rfl rfl rfl (by kernel_rfl) (by kernel_rfl) (by kernel_rfl) (by kernel_rfl)
  obtain ⟨v0, e0, _⟩ := wt_int Tryd.underlying3 h0
  cases e0
  obtain ⟨v1, e1, k1⟩ := wt_string Tryd.underlying9 h1
  cases e1
  obtain ⟨v2, e2, k2⟩ := wt_string Tryd.underlying9 h2
  cases e2
  obtain ⟨⟨c3name, c3kind, c3need, c3once, ⟨c3d_k, c3d_n, c3d_t⟩⟩, e3, k3⟩ := w_Col h3
  cases e3
  exact ⟨⟨v0, v1, v2, ⟨c3name, c3kind, c3need, c3once, ⟨c3d_k, c3d_n, c3d_t⟩⟩⟩, rfl, ⟨k1, k2, k3⟩⟩
theorem w_Changes {m : Nat} {ls : List Leaf} (h : WT Tryd.prog (m + 5) 71 ls) : ∃ l : List Change, ls = [.imm 10 (l.map encChange)] ∧ l.length ≤ maxLen ∧ ∀ x ∈ l, x.ok := by
  obtain ⟨rows, e, hl, hr⟩ := wt_slice Tryd.underlying71 h
  rw [show Tryd.prog.cellsOf 53 = 10 by kernel_rfl] at e
  obtain ⟨l, rfl, hok⟩ := rows_of (enc := encChange) (ok := Change.ok) fun r hrm => w_Change (hr r hrm).2
  exact ⟨l, e, by simpa using hl, hok⟩
end Go.Vl
