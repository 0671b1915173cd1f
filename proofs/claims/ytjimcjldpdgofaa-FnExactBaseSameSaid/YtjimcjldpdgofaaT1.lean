/- The types of what is handed in, as leaves. Printed by our own gends.py. -/
import Derived.Test.YtjimcjldpdgofaaVz
import Derived.Test.YtjimcjldpdgofaaE0
namespace Go.Vl
open Go Go.RowKit Go.Proofs
set_option maxRecDepth 100000
theorem rows_of {α : Type} {enc : α → List Leaf} {ok : α → Prop} : ∀ {rows : List (List Leaf)}, (∀ r ∈ rows, ∃ v : α, r = enc v ∧ ok v) → ∃ l : List α, rows = l.map enc ∧ ∀ v ∈ l, ok v
  | [], _ => ⟨[], rfl, by simp⟩
  | r :: rows, h => by
    obtain ⟨v, rfl, hv⟩ := h r (by simp)
    obtain ⟨l, rfl, hl⟩ := rows_of (rows := rows) fun r hr => h r (by simp [hr])
    exact ⟨v :: l, rfl, by simpa using ⟨hv, hl⟩⟩
theorem w_Val {m : Nat} {ls : List Leaf} (h : WT Try.prog (m + 2) 38 ls) : ∃ v : Val, ls = encVal v ∧ v.ok := by
  have key : ∀ {f0 f1 f2 : Field}, Try.prog.underlying 38 = some (.struct #[f0, f1, f2]) → Try.prog.cellsOf 38 = 3 → f0.offset = 0 → f1.offset = 1 → f2.offset = 2 → Try.prog.cellsOf f0.type = 1 → Try.prog.cellsOf f1.type = 1 → Try.prog.cellsOf f2.type = 1 →
      ∃ x0 x1 x2, ls = [x0, x1, x2] ∧ WT Try.prog (m + 1) f0.type [x0] ∧ WT Try.prog (m + 1) f1.type [x1] ∧ WT Try.prog (m + 1) f2.type [x2] := by
    intro f0 f1 f2 hu hc o0 o1 o2 s0 s1 s2
    obtain ⟨hl, hf⟩ := wt_struct hu h
    rw [hc] at hl
    match ls, hl with
    | [x0, x1, x2], _ =>
      have a0 := hf f0 (by simp)
      rw [o0, s0] at a0
      have a1 := hf f1 (by simp)
      rw [o1, s1] at a1
      have a2 := hf f2 (by simp)
      rw [o2, s2] at a2
      exact ⟨x0, x1, x2, rfl, a0, a1, a2⟩
  obtain ⟨x0, x1, x2, rfl, h0, h1, h2⟩ := key Try.underlying38 (by kernel_rfl) rfl rfl rfl (by kernel_rfl) (by kernel_rfl) (by kernel_rfl)
  obtain ⟨v0, e0, _⟩ := wt_int Try.underlying3 h0
  cases e0
  obtain ⟨v1, e1, _⟩ := wt_int Try.underlying3 h1
  cases e1
  obtain ⟨v2, e2, k2⟩ := wt_string Try.underlying9 h2
  cases e2
  exact ⟨⟨v0, v1, v2⟩, rfl, k2⟩
theorem w_Vals {m : Nat} {ls : List Leaf} (h : WT Try.prog (m + 3) 128 ls) : ∃ l : List Val, ls = [.imm 3 (l.map encVal)] ∧ l.length ≤ maxLen ∧ ∀ x ∈ l, x.ok := by
  obtain ⟨rows, e, hl, hr⟩ := wt_slice Try.underlying128 h
  rw [show Try.prog.cellsOf 38 = 3 by kernel_rfl] at e
  obtain ⟨l, rfl, hok⟩ := rows_of (enc := encVal) (ok := Val.ok) fun r hrm => w_Val (hr r hrm).2
  exact ⟨l, e, by simpa using hl, hok⟩
theorem w_Col {m : Nat} {ls : List Leaf} (h : WT Try.prog (m + 3) 40 ls) : ∃ v : Col, ls = encCol v ∧ v.ok := by
  have key : ∀ {f0 f1 f2 f3 f4 : Field}, Try.prog.underlying 40 = some (.struct #[f0, f1, f2, f3, f4]) → Try.prog.cellsOf 40 = 7 → f0.offset = 0 → f1.offset = 1 → f2.offset = 2 → f3.offset = 3 → f4.offset = 4 → Try.prog.cellsOf f0.type = 1 → Try.prog.cellsOf f1.type = 1 → Try.prog.cellsOf f2.type = 1 → Try.prog.cellsOf f3.type = 1 → Try.prog.cellsOf f4.type = 3 →
      ∃ x0 x1 x2 x3 x4 x5 x6, ls = [x0, x1, x2, x3, x4, x5, x6] ∧ WT Try.prog (m + 2) f0.type [x0] ∧ WT Try.prog (m + 2) f1.type [x1] ∧ WT Try.prog (m + 2) f2.type [x2] ∧ WT Try.prog (m + 2) f3.type [x3] ∧ WT Try.prog (m + 2) f4.type [x4, x5, x6] := by
    intro f0 f1 f2 f3 f4 hu hc o0 o1 o2 o3 o4 s0 s1 s2 s3 s4
    obtain ⟨hl, hf⟩ := wt_struct hu h
    rw [hc] at hl
    match ls, hl with
    | [x0, x1, x2, x3, x4, x5, x6], _ =>
      have a0 := hf f0 (by simp)
      rw [o0, s0] at a0
      have a1 := hf f1 (by simp)
      rw [o1, s1] at a1
      have a2 := hf f2 (by simp)
      rw [o2, s2] at a2
      have a3 := hf f3 (by simp)
      rw [o3, s3] at a3
      have a4 := hf f4 (by simp)
      rw [o4, s4] at a4
      exact ⟨x0, x1, x2, x3, x4, x5, x6, rfl, a0, a1, a2, a3, a4⟩
  obtain ⟨x0, x1, x2, x3, x4, x5, x6, rfl, h0, h1, h2, h3, h4⟩ := key Try.underlying40 (by kernel_rfl) rfl rfl rfl rfl rfl (by kernel_rfl) (by kernel_rfl) (by kernel_rfl) (by kernel_rfl) (by kernel_rfl)
  obtain ⟨v0, e0, k0⟩ := wt_string Try.underlying9 h0
  cases e0
  obtain ⟨v1, e1, _⟩ := wt_int Try.underlying3 h1
  cases e1
  obtain ⟨v2, e2⟩ := wt_bool Try.underlying4 h2
  cases e2
  obtain ⟨v3, e3⟩ := wt_bool Try.underlying4 h3
  cases e3
  obtain ⟨⟨c4k, c4n, c4t⟩, e4, k4⟩ := w_Val h4
  cases e4
  exact ⟨⟨v0, v1, v2, v3, ⟨c4k, c4n, c4t⟩⟩, rfl, ⟨k0, k4⟩⟩
theorem w_Cols {m : Nat} {ls : List Leaf} (h : WT Try.prog (m + 4) 22 ls) : ∃ l : List Col, ls = [.imm 7 (l.map encCol)] ∧ l.length ≤ maxLen ∧ ∀ x ∈ l, x.ok := by
  obtain ⟨rows, e, hl, hr⟩ := wt_slice Try.underlying22 h
  rw [show Try.prog.cellsOf 40 = 7 by kernel_rfl] at e
  obtain ⟨l, rfl, hok⟩ := rows_of (enc := encCol) (ok := Col.ok) fun r hrm => w_Col (hr r hrm).2
  exact ⟨l, e, by simpa using hl, hok⟩
theorem w_Change {m : Nat} {ls : List Leaf} (h : WT Try.prog (m + 4) 42 ls) : ∃ v : Change, ls = encChange v ∧ v.ok := by
  have key : ∀ {f0 f1 f2 f3 : Field}, Try.prog.underlying 42 = some (.struct #[f0, f1, f2, f3]) → Try.prog.cellsOf 42 = 10 → f0.offset = 0 → f1.offset = 1 → f2.offset = 2 → f3.offset = 3 → Try.prog.cellsOf f0.type = 1 → Try.prog.cellsOf f1.type = 1 → Try.prog.cellsOf f2.type = 1 → Try.prog.cellsOf f3.type = 7 →
      ∃ x0 x1 x2 x3 x4 x5 x6 x7 x8 x9, ls = [x0, x1, x2, x3, x4, x5, x6, x7, x8, x9] ∧ WT Try.prog (m + 3) f0.type [x0] ∧ WT Try.prog (m + 3) f1.type [x1] ∧ WT Try.prog (m + 3) f2.type [x2] ∧ WT Try.prog (m + 3) f3.type [x3, x4, x5, x6, x7, x8, x9] := by
    intro f0 f1 f2 f3 hu hc o0 o1 o2 o3 s0 s1 s2 s3
    obtain ⟨hl, hf⟩ := wt_struct hu h
    rw [hc] at hl
    match ls, hl with
    | [x0, x1, x2, x3, x4, x5, x6, x7, x8, x9], _ =>
      have a0 := hf f0 (by simp)
      rw [o0, s0] at a0
      have a1 := hf f1 (by simp)
      rw [o1, s1] at a1
      have a2 := hf f2 (by simp)
      rw [o2, s2] at a2
      have a3 := hf f3 (by simp)
      rw [o3, s3] at a3
      exact ⟨x0, x1, x2, x3, x4, x5, x6, x7, x8, x9, rfl, a0, a1, a2, a3⟩
  obtain ⟨x0, x1, x2, x3, x4, x5, x6, x7, x8, x9, rfl, h0, h1, h2, h3⟩ := key Try.underlying42 (by kernel_rfl) rfl rfl rfl rfl (by kernel_rfl) (by kernel_rfl) (by kernel_rfl) (by kernel_rfl)
  obtain ⟨v0, e0, _⟩ := wt_int Try.underlying3 h0
  cases e0
  obtain ⟨v1, e1, k1⟩ := wt_string Try.underlying9 h1
  cases e1
  obtain ⟨v2, e2, k2⟩ := wt_string Try.underlying9 h2
  cases e2
  obtain ⟨⟨c3name, c3kind, c3need, c3once, ⟨c3d_k, c3d_n, c3d_t⟩⟩, e3, k3⟩ := w_Col h3
  cases e3
  exact ⟨⟨v0, v1, v2, ⟨c3name, c3kind, c3need, c3once, ⟨c3d_k, c3d_n, c3d_t⟩⟩⟩, rfl, ⟨k1, k2, k3⟩⟩
theorem w_Changes {m : Nat} {ls : List Leaf} (h : WT Try.prog (m + 5) 23 ls) : ∃ l : List Change, ls = [.imm 10 (l.map encChange)] ∧ l.length ≤ maxLen ∧ ∀ x ∈ l, x.ok := by
  obtain ⟨rows, e, hl, hr⟩ := wt_slice Try.underlying23 h
  rw [show Try.prog.cellsOf 42 = 10 by kernel_rfl] at e
  obtain ⟨l, rfl, hok⟩ := rows_of (enc := encChange) (ok := Change.ok) fun r hrm => w_Change (hr r hrm).2
  exact ⟨l, e, by simpa using hl, hok⟩
theorem w_VRow {m : Nat} {ls : List Leaf} (h : WT Try.prog (m + 4) 130 ls) : ∃ v : VRow, ls = encVRow v ∧ v.ok := by
  have key : ∀ {f0 f1 f2 : Field}, Try.prog.underlying 130 = some (.struct #[f0, f1, f2]) → Try.prog.cellsOf 130 = 3 → f0.offset = 0 → f1.offset = 1 → f2.offset = 2 → Try.prog.cellsOf f0.type = 1 → Try.prog.cellsOf f1.type = 1 → Try.prog.cellsOf f2.type = 1 →
      ∃ x0 x1 x2, ls = [x0, x1, x2] ∧ WT Try.prog (m + 3) f0.type [x0] ∧ WT Try.prog (m + 3) f1.type [x1] ∧ WT Try.prog (m + 3) f2.type [x2] := by
    intro f0 f1 f2 hu hc o0 o1 o2 s0 s1 s2
    obtain ⟨hl, hf⟩ := wt_struct hu h
    rw [hc] at hl
    match ls, hl with
    | [x0, x1, x2], _ =>
      have a0 := hf f0 (by simp)
      rw [o0, s0] at a0
      have a1 := hf f1 (by simp)
      rw [o1, s1] at a1
      have a2 := hf f2 (by simp)
      rw [o2, s2] at a2
      exact ⟨x0, x1, x2, rfl, a0, a1, a2⟩
  obtain ⟨x0, x1, x2, rfl, h0, h1, h2⟩ := key Try.underlying130 (by kernel_rfl) rfl rfl rfl (by kernel_rfl) (by kernel_rfl) (by kernel_rfl)
  obtain ⟨v0, e0, _⟩ := wt_int Try.underlying3 h0
  cases e0
  obtain ⟨v1, e1, _⟩ := wt_int Try.underlying3 h1
  cases e1
  obtain ⟨v2, e2, k2⟩ := w_Vals h2
  cases e2
  exact ⟨⟨v0, v1, v2⟩, rfl, k2⟩
theorem w_VRows {m : Nat} {ls : List Leaf} (h : WT Try.prog (m + 5) 24 ls) : ∃ l : List VRow, ls = [.imm 3 (l.map encVRow)] ∧ l.length ≤ maxLen ∧ ∀ x ∈ l, x.ok := by
  obtain ⟨rows, e, hl, hr⟩ := wt_slice Try.underlying24 h
  rw [show Try.prog.cellsOf 130 = 3 by kernel_rfl] at e
  obtain ⟨l, rfl, hok⟩ := rows_of (enc := encVRow) (ok := VRow.ok) fun r hrm => w_VRow (hr r hrm).2
  exact ⟨l, e, by simpa using hl, hok⟩
theorem w_VTable {m : Nat} {ls : List Leaf} (h : WT Try.prog (m + 6) 26 ls) : ∃ v : VTable, ls = encVTable v ∧ v.ok := by
  have key : ∀ {f0 f1 f2 f3 : Field}, Try.prog.underlying 26 = some (.struct #[f0, f1, f2, f3]) → Try.prog.cellsOf 26 = 4 → f0.offset = 0 → f1.offset = 1 → f2.offset = 2 → f3.offset = 3 → Try.prog.cellsOf f0.type = 1 → Try.prog.cellsOf f1.type = 1 → Try.prog.cellsOf f2.type = 1 → Try.prog.cellsOf f3.type = 1 →
      ∃ x0 x1 x2 x3, ls = [x0, x1, x2, x3] ∧ WT Try.prog (m + 5) f0.type [x0] ∧ WT Try.prog (m + 5) f1.type [x1] ∧ WT Try.prog (m + 5) f2.type [x2] ∧ WT Try.prog (m + 5) f3.type [x3] := by
    intro f0 f1 f2 f3 hu hc o0 o1 o2 o3 s0 s1 s2 s3
    obtain ⟨hl, hf⟩ := wt_struct hu h
    rw [hc] at hl
    match ls, hl with
    | [x0, x1, x2, x3], _ =>
      have a0 := hf f0 (by simp)
      rw [o0, s0] at a0
      have a1 := hf f1 (by simp)
      rw [o1, s1] at a1
      have a2 := hf f2 (by simp)
      rw [o2, s2] at a2
      have a3 := hf f3 (by simp)
      rw [o3, s3] at a3
      exact ⟨x0, x1, x2, x3, rfl, a0, a1, a2, a3⟩
  obtain ⟨x0, x1, x2, x3, rfl, h0, h1, h2, h3⟩ := key Try.underlying26 (by kernel_rfl) rfl rfl rfl rfl (by kernel_rfl) (by kernel_rfl) (by kernel_rfl) (by kernel_rfl)
  obtain ⟨v0, e0, k0⟩ := w_Cols h0
  cases e0
  obtain ⟨v1, e1, k1⟩ := w_Changes h1
  cases e1
  obtain ⟨v2, e2, k2⟩ := w_VRows h2
  cases e2
  obtain ⟨v3, e3, _⟩ := wt_int Try.underlying3 h3
  cases e3
  exact ⟨⟨v0, v1, v2, v3⟩, rfl, ⟨k0, k1, k2⟩⟩
theorem w_VSet {m : Nat} {ls : List Leaf} (h : WT Try.prog (m + 3) 134 ls) : ∃ v : VSet, ls = encVSet v ∧ v.ok := by
  have key : ∀ {f0 f1 : Field}, Try.prog.underlying 134 = some (.struct #[f0, f1]) → Try.prog.cellsOf 134 = 4 → f0.offset = 0 → f1.offset = 1 → Try.prog.cellsOf f0.type = 1 → Try.prog.cellsOf f1.type = 3 →
      ∃ x0 x1 x2 x3, ls = [x0, x1, x2, x3] ∧ WT Try.prog (m + 2) f0.type [x0] ∧ WT Try.prog (m + 2) f1.type [x1, x2, x3] := by
    intro f0 f1 hu hc o0 o1 s0 s1
    obtain ⟨hl, hf⟩ := wt_struct hu h
    rw [hc] at hl
    match ls, hl with
    | [x0, x1, x2, x3], _ =>
      have a0 := hf f0 (by simp)
      rw [o0, s0] at a0
      have a1 := hf f1 (by simp)
      rw [o1, s1] at a1
      exact ⟨x0, x1, x2, x3, rfl, a0, a1⟩
  obtain ⟨x0, x1, x2, x3, rfl, h0, h1⟩ := key Try.underlying134 (by kernel_rfl) rfl rfl (by kernel_rfl) (by kernel_rfl)
  obtain ⟨v0, e0, k0⟩ := wt_string Try.underlying9 h0
  cases e0
  obtain ⟨⟨c1k, c1n, c1t⟩, e1, k1⟩ := w_Val h1
  cases e1
  exact ⟨⟨v0, ⟨c1k, c1n, c1t⟩⟩, rfl, ⟨k0, k1⟩⟩
theorem w_VSets {m : Nat} {ls : List Leaf} (h : WT Try.prog (m + 4) 36 ls) : ∃ l : List VSet, ls = [.imm 4 (l.map encVSet)] ∧ l.length ≤ maxLen ∧ ∀ x ∈ l, x.ok := by
  obtain ⟨rows, e, hl, hr⟩ := wt_slice Try.underlying36 h
  rw [show Try.prog.cellsOf 134 = 4 by kernel_rfl] at e
  obtain ⟨l, rfl, hok⟩ := rows_of (enc := encVSet) (ok := VSet.ok) fun r hrm => w_VSet (hr r hrm).2
  exact ⟨l, e, by simpa using hl, hok⟩
theorem w_VLink {m : Nat} {ls : List Leaf} (h : WT Try.prog (m + 2) 44 ls) : ∃ v : VLink, ls = encVLink v ∧ v.ok := by
  have key : ∀ {f0 f1 f2 f3 : Field}, Try.prog.underlying 44 = some (.struct #[f0, f1, f2, f3]) → Try.prog.cellsOf 44 = 4 → f0.offset = 0 → f1.offset = 1 → f2.offset = 2 → f3.offset = 3 → Try.prog.cellsOf f0.type = 1 → Try.prog.cellsOf f1.type = 1 → Try.prog.cellsOf f2.type = 1 → Try.prog.cellsOf f3.type = 1 →
      ∃ x0 x1 x2 x3, ls = [x0, x1, x2, x3] ∧ WT Try.prog (m + 1) f0.type [x0] ∧ WT Try.prog (m + 1) f1.type [x1] ∧ WT Try.prog (m + 1) f2.type [x2] ∧ WT Try.prog (m + 1) f3.type [x3] := by
    intro f0 f1 f2 f3 hu hc o0 o1 o2 o3 s0 s1 s2 s3
    obtain ⟨hl, hf⟩ := wt_struct hu h
    rw [hc] at hl
    match ls, hl with
    | [x0, x1, x2, x3], _ =>
      have a0 := hf f0 (by simp)
      rw [o0, s0] at a0
      have a1 := hf f1 (by simp)
      rw [o1, s1] at a1
      have a2 := hf f2 (by simp)
      rw [o2, s2] at a2
      have a3 := hf f3 (by simp)
      rw [o3, s3] at a3
      exact ⟨x0, x1, x2, x3, rfl, a0, a1, a2, a3⟩
  obtain ⟨x0, x1, x2, x3, rfl, h0, h1, h2, h3⟩ := key Try.underlying44 (by kernel_rfl) rfl rfl rfl rfl (by kernel_rfl) (by kernel_rfl) (by kernel_rfl) (by kernel_rfl)
  obtain ⟨v0, e0, k0⟩ := wt_string Try.underlying9 h0
  cases e0
  obtain ⟨v1, e1, k1⟩ := wt_string Try.underlying9 h1
  cases e1
  obtain ⟨v2, e2, k2⟩ := wt_string Try.underlying9 h2
  cases e2
  obtain ⟨v3, e3, _⟩ := wt_int Try.underlying3 h3
  cases e3
  exact ⟨⟨v0, v1, v2, v3⟩, rfl, ⟨k0, k1, k2⟩⟩
theorem w_VLinks {m : Nat} {ls : List Leaf} (h : WT Try.prog (m + 3) 69 ls) : ∃ l : List VLink, ls = [.imm 4 (l.map encVLink)] ∧ l.length ≤ maxLen ∧ ∀ x ∈ l, x.ok := by
  obtain ⟨rows, e, hl, hr⟩ := wt_slice Try.underlying69 h
  rw [show Try.prog.cellsOf 44 = 4 by kernel_rfl] at e
  obtain ⟨l, rfl, hok⟩ := rows_of (enc := encVLink) (ok := VLink.ok) fun r hrm => w_VLink (hr r hrm).2
  exact ⟨l, e, by simpa using hl, hok⟩
theorem w_VTab {m : Nat} {ls : List Leaf} (h : WT Try.prog (m + 7) 152 ls) : ∃ v : VTab, ls = encVTab v ∧ v.ok := by
  have key : ∀ {f0 f1 : Field}, Try.prog.underlying 152 = some (.struct #[f0, f1]) → Try.prog.cellsOf 152 = 5 → f0.offset = 0 → f1.offset = 1 → Try.prog.cellsOf f0.type = 1 → Try.prog.cellsOf f1.type = 4 →
      ∃ x0 x1 x2 x3 x4, ls = [x0, x1, x2, x3, x4] ∧ WT Try.prog (m + 6) f0.type [x0] ∧ WT Try.prog (m + 6) f1.type [x1, x2, x3, x4] := by
    intro f0 f1 hu hc o0 o1 s0 s1
    obtain ⟨hl, hf⟩ := wt_struct hu h
    rw [hc] at hl
    match ls, hl with
    | [x0, x1, x2, x3, x4], _ =>
      have a0 := hf f0 (by simp)
      rw [o0, s0] at a0
      have a1 := hf f1 (by simp)
      rw [o1, s1] at a1
      exact ⟨x0, x1, x2, x3, x4, rfl, a0, a1⟩
  obtain ⟨x0, x1, x2, x3, x4, rfl, h0, h1⟩ := key Try.underlying152 (by kernel_rfl) rfl rfl (by kernel_rfl) (by kernel_rfl)
  obtain ⟨v0, e0, k0⟩ := wt_string Try.underlying9 h0
  cases e0
  obtain ⟨⟨c1first, c1changes, c1rows, c1next⟩, e1, k1⟩ := w_VTable h1
  cases e1
  exact ⟨⟨v0, ⟨c1first, c1changes, c1rows, c1next⟩⟩, rfl, ⟨k0, k1⟩⟩
theorem w_VTabs {m : Nat} {ls : List Leaf} (h : WT Try.prog (m + 8) 68 ls) : ∃ l : List VTab, ls = [.imm 5 (l.map encVTab)] ∧ l.length ≤ maxLen ∧ ∀ x ∈ l, x.ok := by
  obtain ⟨rows, e, hl, hr⟩ := wt_slice Try.underlying68 h
  rw [show Try.prog.cellsOf 152 = 5 by kernel_rfl] at e
  obtain ⟨l, rfl, hok⟩ := rows_of (enc := encVTab) (ok := VTab.ok) fun r hrm => w_VTab (hr r hrm).2
  exact ⟨l, e, by simpa using hl, hok⟩
theorem w_VBase {m : Nat} {ls : List Leaf} (h : WT Try.prog (m + 9) 71 ls) : ∃ v : VBase, ls = encVBase v ∧ v.ok := by
  have key : ∀ {f0 f1 : Field}, Try.prog.underlying 71 = some (.struct #[f0, f1]) → Try.prog.cellsOf 71 = 2 → f0.offset = 0 → f1.offset = 1 → Try.prog.cellsOf f0.type = 1 → Try.prog.cellsOf f1.type = 1 →
      ∃ x0 x1, ls = [x0, x1] ∧ WT Try.prog (m + 8) f0.type [x0] ∧ WT Try.prog (m + 8) f1.type [x1] := by
    intro f0 f1 hu hc o0 o1 s0 s1
    obtain ⟨hl, hf⟩ := wt_struct hu h
    rw [hc] at hl
    match ls, hl with
    | [x0, x1], _ =>
      have a0 := hf f0 (by simp)
      rw [o0, s0] at a0
      have a1 := hf f1 (by simp)
      rw [o1, s1] at a1
      exact ⟨x0, x1, rfl, a0, a1⟩
  obtain ⟨x0, x1, rfl, h0, h1⟩ := key Try.underlying71 (by kernel_rfl) rfl rfl (by kernel_rfl) (by kernel_rfl)
  obtain ⟨v0, e0, k0⟩ := w_VTabs h0
  cases e0
  obtain ⟨v1, e1, k1⟩ := w_VLinks h1
  cases e1
  exact ⟨⟨v0, v1⟩, rfl, ⟨k0, k1⟩⟩
theorem w_VAct {m : Nat} {ls : List Leaf} (h : WT Try.prog (m + 5) 46 ls) : ∃ v : VAct, ls = encVAct v ∧ v.ok := by
  have key : ∀ {f0 f1 f2 f3 f4 f5 f6 : Field}, Try.prog.underlying 46 = some (.struct #[f0, f1, f2, f3, f4, f5, f6]) → Try.prog.cellsOf 46 = 19 → f0.offset = 0 → f1.offset = 1 → f2.offset = 2 → f3.offset = 3 → f4.offset = 4 → f5.offset = 5 → f6.offset = 15 → Try.prog.cellsOf f0.type = 1 → Try.prog.cellsOf f1.type = 1 → Try.prog.cellsOf f2.type = 1 → Try.prog.cellsOf f3.type = 1 → Try.prog.cellsOf f4.type = 1 → Try.prog.cellsOf f5.type = 10 → Try.prog.cellsOf f6.type = 4 →
      ∃ x0 x1 x2 x3 x4 x5 x6 x7 x8 x9 x10 x11 x12 x13 x14 x15 x16 x17 x18, ls = [x0, x1, x2, x3, x4, x5, x6, x7, x8, x9, x10, x11, x12, x13, x14, x15, x16, x17, x18] ∧ WT Try.prog (m + 4) f0.type [x0] ∧ WT Try.prog (m + 4) f1.type [x1] ∧ WT Try.prog (m + 4) f2.type [x2] ∧ WT Try.prog (m + 4) f3.type [x3] ∧ WT Try.prog (m + 4) f4.type [x4] ∧ WT Try.prog (m + 4) f5.type [x5, x6, x7, x8, x9, x10, x11, x12, x13, x14] ∧ WT Try.prog (m + 4) f6.type [x15, x16, x17, x18] := by
    intro f0 f1 f2 f3 f4 f5 f6 hu hc o0 o1 o2 o3 o4 o5 o6 s0 s1 s2 s3 s4 s5 s6
    obtain ⟨hl, hf⟩ := wt_struct hu h
    rw [hc] at hl
    match ls, hl with
    | [x0, x1, x2, x3, x4, x5, x6, x7, x8, x9, x10, x11, x12, x13, x14, x15, x16, x17, x18], _ =>
      have a0 := hf f0 (by simp)
      rw [o0, s0] at a0
      have a1 := hf f1 (by simp)
      rw [o1, s1] at a1
      have a2 := hf f2 (by simp)
      rw [o2, s2] at a2
      have a3 := hf f3 (by simp)
      rw [o3, s3] at a3
      have a4 := hf f4 (by simp)
      rw [o4, s4] at a4
      have a5 := hf f5 (by simp)
      rw [o5, s5] at a5
      have a6 := hf f6 (by simp)
      rw [o6, s6] at a6
      exact ⟨x0, x1, x2, x3, x4, x5, x6, x7, x8, x9, x10, x11, x12, x13, x14, x15, x16, x17, x18, rfl, a0, a1, a2, a3, a4, a5, a6⟩
  obtain ⟨x0, x1, x2, x3, x4, x5, x6, x7, x8, x9, x10, x11, x12, x13, x14, x15, x16, x17, x18, rfl, h0, h1, h2, h3, h4, h5, h6⟩ := key Try.underlying46 (by kernel_rfl) rfl rfl rfl rfl rfl rfl rfl (by kernel_rfl) (by kernel_rfl) (by kernel_rfl) (by kernel_rfl) (by kernel_rfl) (by kernel_rfl) (by kernel_rfl)
  obtain ⟨v0, e0, _⟩ := wt_int Try.underlying3 h0
  cases e0
  obtain ⟨v1, e1, k1⟩ := wt_string Try.underlying9 h1
  cases e1
  obtain ⟨v2, e2, _⟩ := wt_int Try.underlying3 h2
  cases e2
  obtain ⟨v3, e3, k3⟩ := w_VSets h3
  cases e3
  obtain ⟨v4, e4, k4⟩ := w_Cols h4
  cases e4
  obtain ⟨⟨c5kind, c5name, c5new, ⟨c5col_name, c5col_kind, c5col_need, c5col_once, ⟨c5col_d_k, c5col_d_n, c5col_d_t⟩⟩⟩, e5, k5⟩ := w_Change h5
  cases e5
  obtain ⟨⟨c6src, c6col, c6dst, c6how⟩, e6, k6⟩ := w_VLink h6
  cases e6
  exact ⟨⟨v0, v1, v2, v3, v4, ⟨c5kind, c5name, c5new, ⟨c5col_name, c5col_kind, c5col_need, c5col_once, ⟨c5col_d_k, c5col_d_n, c5col_d_t⟩⟩⟩, ⟨c6src, c6col, c6dst, c6how⟩⟩, rfl, ⟨k1, k3, k4, k5, k6⟩⟩
end Go.Vl
