/- The types of what is handed in, as leaves: a value, and how great its number is. -/
import Derived.Test.YtodknhldemgneaaDoorT1
namespace Go.Vl
open Go Go.RowKit Go.Proofs
set_option maxRecDepth 100000
theorem w_ValI {m : Nat} {ls : List Leaf} (h : WT Tryd.prog (m + 2) 23 ls) : ∃ v : Val, ls = encVal v ∧ v.ok ∧ (-9223372036854775808 ≤ v.n ∧ v.n ≤ 9223372036854775807) := by
  have key : ∀ {f0 f1 f2 : Field}, Tryd.prog.underlying 23 = some (.struct #[f0, f1, f2]) → Tryd.prog.cellsOf 23 = 3 → f0.offset = 0 → f1.offset = 1 → f2.offset = 2 → Tryd.prog.cellsOf f0.type = 1 → Tryd.prog.cellsOf f1.type = 1 → Tryd.prog.cellsOf f2.type = 1 →
      ∃ x0 x1 x2, ls = [x0, x1, x2] ∧ WT Tryd.prog (m + 1) f0.type [x0] ∧ WT Tryd.prog (m + 1) f1.type [x1] ∧ WT Tryd.prog (m + 1) f2.type [x2] := by
    intro f0 f1 f2 hu hc o0 o1 o2 s0 s1 s2
    obtain ⟨hl, hf⟩ := wt_struct hu h
    rw [hc] at hl
    match ls, hl with
    | [x0, x1, x2], _ =>
      have a0 := hf f0 (by simp)
      rw [o0, s0] at a0
      have a1 := hf f1 (by simp)
      rw [o1, s1] at a1
      have a2 := hf f2 (by simp)
      rw [o2, s2] at a2
      exact ⟨x0, x1, x2, rfl, a0, a1, a2⟩
  obtain ⟨x0, x1, x2, rfl, h0, h1, h2⟩ := key Tryd.underlying23 (by kernel_rfl) rfl rfl rfl (by kernel_rfl) (by kernel_rfl) (by kernel_rfl)
  obtain ⟨v0, e0, _⟩ := wt_int Tryd.underlying3 h0
  cases e0
  obtain ⟨v1, e1, k1⟩ := wt_int Tryd.underlying3 h1
  cases e1
  obtain ⟨v2, e2, k2⟩ := wt_string Tryd.underlying9 h2
  cases e2
  simp [Lit.wf, IntKind.min, IntKind.max, IntKind.signed, IntKind.bits] at k1
  exact ⟨⟨v0, v1, v2⟩, rfl, k2, by omega⟩
theorem w_Int {m : Nat} {ls : List Leaf} (h : WT Tryd.prog (m + 1) 3 ls) : ∃ v : Int, ls = [.g (.int .i64 v)] ∧ (-9223372036854775808 ≤ v ∧ v ≤ 9223372036854775807) := by
  obtain ⟨v1, e1, k1⟩ := wt_int Tryd.underlying3 h
  simp [Lit.wf, IntKind.min, IntKind.max, IntKind.signed, IntKind.bits] at k1
  exact ⟨v1, e1, by omega⟩
theorem w_Str {m : Nat} {ls : List Leaf} (h : WT Tryd.prog (m + 1) 9 ls) : ∃ v : ByteArray, ls = [.g (.string v)] ∧ v.size ≤ maxLen := by
  obtain ⟨v1, e1, k1⟩ := wt_string Tryd.underlying9 h
  exact ⟨v1, e1, k1⟩
end Go.Vl
