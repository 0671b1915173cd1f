/- The types of what is handed in, as leaves: codes. -/
import Derived.Test.YtegjajojckbkjaaDoorWj
import Derived.Test.YtegjajojckbkjaaDoorDa
namespace Go.Vl
open Go Go.RowKit Go.Proofs
set_option maxRecDepth 100000
set_option linter.unusedSimpArgs false
set_option linter.unusedVariables false
theorem wt_bytes {m : Nat} {ls : List Leaf} (h : WT Tryd.prog (m + 2) 22 ls) : ∃ bs : List Int, ls = [.imm 1 (bytesL bs)] ∧ bs.length ≤ maxLen ∧ ∀ x ∈ bs, 0 ≤ x ∧ x < 256 := by
  obtain ⟨rows, e, hl, hr⟩ := wt_slice Tryd.underlying22 h
  rw [show Tryd.prog.cellsOf 5 = 1 by kernel_rfl] at e
  have key : ∀ rows : List (List Leaf), (∀ r ∈ rows, ∃ x : Int, r = [.g (.int .u8 x)] ∧ 0 ≤ x ∧ x < 256) → ∃ bs : List Int, rows = bytesL bs ∧ ∀ x ∈ bs, 0 ≤ x ∧ x < 256 := by
    intro rows
    induction rows with
    | nil => intro _; exact ⟨[], rfl, by simp⟩
    | cons r rows ih =>
      intro hh
      obtain ⟨x, rfl, hx⟩ := hh r (by simp)
      obtain ⟨bs, rfl, hbs⟩ := ih fun r hr => hh r (by simp [hr])
      exact ⟨x :: bs, rfl, by simpa using ⟨hx, hbs⟩⟩
  obtain ⟨bs, rfl, hbs⟩ := key rows fun r hrm => by
    obtain ⟨x, e, hw⟩ := wt_int Tryd.underlying5 (hr r hrm).2
    refine ⟨x, e, ?_⟩
    simp [Lit.wf, IntKind.min, IntKind.max, IntKind.signed, IntKind.bits] at hw
    omega
  exact ⟨bs, e, by simpa [bytesL] using hl, hbs⟩
end Go.Vl
