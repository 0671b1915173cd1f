/- The types of what is handed in, as leaves. -/
import Derived.Test.YtiaendjdmnpcdaaVz
import Derived.Test.YtiaendjdmnpcdaaCc
namespace Go.Vl
open Go Go.RowKit Go.Proofs
theorem wt_val {m : Nat} {ls : List Leaf} (h : WT Try.prog (m + 2) 24 ls) : ∃ v : Val, ls = encVal v ∧ v.t.size ≤ maxLen := by
  obtain ⟨x0, x1, x2, rfl, h0, h1, h2⟩ := wt_struct3 Try.underlying24 (by kernel_rfl) ⟨rfl, by kernel_rfl⟩ ⟨rfl, by kernel_rfl⟩ ⟨rfl, by kernel_rfl⟩ h
  obtain ⟨k, e0, _⟩ := wt_int Try.underlying3 h0
  obtain ⟨n, e1, _⟩ := wt_int Try.underlying3 h1
  obtain ⟨s, e2, hs⟩ := wt_string Try.underlying9 h2
  cases e0; cases e1; cases e2
  exact ⟨⟨k, n, s⟩, rfl, hs⟩

theorem wt_col {m : Nat} {ls : List Leaf} (h : WT Try.prog (m + 3) 37 ls) : ∃ c : Col, ls = encCol c ∧ c.ok := by
  have key : ∀ {f0 f1 f2 f3 f4 : Field}, Try.prog.underlying 37 = some (.struct #[f0, f1, f2, f3, f4]) → Try.prog.cellsOf 37 = 7 → f0.offset = 0 → f1.offset = 1 → f2.offset = 2 → f3.offset = 3 → f4.offset = 4 →
      Try.prog.cellsOf f0.type = 1 → Try.prog.cellsOf f1.type = 1 → Try.prog.cellsOf f2.type = 1 → Try.prog.cellsOf f3.type = 1 → Try.prog.cellsOf f4.type = 3 →
      ∃ x0 x1 x2 x3 x4 x5 x6, ls = [x0, x1, x2, x3, x4, x5, x6] ∧ WT Try.prog (m + 2) f0.type [x0] ∧ WT Try.prog (m + 2) f1.type [x1] ∧ WT Try.prog (m + 2) f2.type [x2] ∧ WT Try.prog (m + 2) f3.type [x3] ∧ WT Try.prog (m + 2) f4.type [x4, x5, x6] := by
    intro f0 f1 f2 f3 f4 hu hc o0 o1 o2 o3 o4 s0 s1 s2 s3 s4
    obtain ⟨hl, hf⟩ := wt_struct hu h
    rw [hc] at hl
    match ls, hl with
    | [x0, x1, x2, x3, x4, x5, x6], _ =>
      have a0 := hf f0 (by simp)
      have a1 := hf f1 (by simp)
      have a2 := hf f2 (by simp)
      have a3 := hf f3 (by simp)
      have a4 := hf f4 (by simp)
      rw [o0, s0] at a0
      rw [o1, s1] at a1
      rw [o2, s2] at a2
      rw [o3, s3] at a3
      rw [o4, s4] at a4
      exact ⟨x0, x1, x2, x3, x4, x5, x6, rfl, a0, a1, a2, a3, a4⟩
  obtain ⟨x0, x1, x2, x3, x4, x5, x6, rfl, h0, h1, h2, h3, h4⟩ := key Try.underlying37 (by kernel_rfl) rfl rfl rfl rfl rfl (by kernel_rfl) (by kernel_rfl) (by kernel_rfl) (by kernel_rfl) (by kernel_rfl)
  obtain ⟨s, e0, hs⟩ := wt_string Try.underlying9 h0
  obtain ⟨k, e1, _⟩ := wt_int Try.underlying3 h1
  obtain ⟨b, e2⟩ := wt_bool Try.underlying4 h2
  obtain ⟨b', e3⟩ := wt_bool Try.underlying4 h3
  obtain ⟨v, e4, hv⟩ := wt_val h4
  cases e0; cases e1; cases e2; cases e3
  simp only [encVal, List.cons.injEq, and_true] at e4
  obtain ⟨rfl, rfl, rfl⟩ := e4
  exact ⟨⟨s, k, b, b', v⟩, rfl, hs, hv⟩

theorem wt_cols {m : Nat} {ls : List Leaf} (h : WT Try.prog (m + 4) 44 ls) : ∃ cs : List Col, ls = [.imm 7 (cs.map encCol)] ∧ cs.length ≤ maxLen ∧ ∀ c ∈ cs, c.ok := by
  obtain ⟨rows, e, hl, hr⟩ := wt_slice Try.underlying44 h
  rw [show Try.prog.cellsOf 37 = 7 by kernel_rfl] at e
  have key : ∀ rows : List (List Leaf), (∀ r ∈ rows, ∃ c : Col, r = encCol c ∧ c.ok) → ∃ cs : List Col, rows = cs.map encCol ∧ ∀ c ∈ cs, c.ok := by
    intro rows
    induction rows with
    | nil => intro _; exact ⟨[], rfl, by simp⟩
    | cons r rows ih =>
      intro hh
      obtain ⟨c, rfl, hc⟩ := hh r (by simp)
      obtain ⟨cs, rfl, hcs⟩ := ih fun r hr => hh r (by simp [hr])
      exact ⟨c :: cs, rfl, by simpa using ⟨hc, hcs⟩⟩
  obtain ⟨cs, rfl, hcs⟩ := key rows fun r hrm => wt_col (hr r hrm).2
  exact ⟨cs, e, by simpa using hl, hcs⟩

theorem wt_vals {m : Nat} {ls : List Leaf} (h : WT Try.prog (m + 3) 65 ls) : ∃ cs : List Val, ls = [.imm 3 (cs.map encVal)] ∧ cs.length ≤ maxLen ∧ ∀ c ∈ cs, c.t.size ≤ maxLen := by
  obtain ⟨rows, e, hl, hr⟩ := wt_slice Try.underlying65 h
  rw [show Try.prog.cellsOf 24 = 3 by kernel_rfl] at e
  have key : ∀ rows : List (List Leaf), (∀ r ∈ rows, ∃ c : Val, r = encVal c ∧ c.t.size ≤ maxLen) → ∃ cs : List Val, rows = cs.map encVal ∧ ∀ c ∈ cs, c.t.size ≤ maxLen := by
    intro rows
    induction rows with
    | nil => intro _; exact ⟨[], rfl, by simp⟩
    | cons r rows ih =>
      intro hh
      obtain ⟨c, rfl, hc⟩ := hh r (by simp)
      obtain ⟨cs, rfl, hcs⟩ := ih fun r hr => hh r (by simp [hr])
      exact ⟨c :: cs, rfl, by simpa using ⟨hc, hcs⟩⟩
  obtain ⟨cs, rfl, hcs⟩ := key rows fun r hrm => wt_val (hr r hrm).2
  exact ⟨cs, e, by simpa using hl, hcs⟩
end Go.Vl
