/- The types of what is handed in, as leaves. -/
import Derived.Test.YtiaendjdmnpcdaaVz
import Derived.Test.YtiaendjdmnpcdaaCa
namespace Go.Vl
open Go Go.RowKit Go.Proofs
theorem wt_val {m : Nat} {ls : List Leaf} (h : WT Try.prog (m + 2) 24 ls) : ∃ v : Val, ls = encVal v ∧ v.t.size ≤ maxLen := by
  obtain ⟨x0, x1, x2, rfl, h0, h1, h2⟩ := wt_struct3 Try.underlying24 (by kernel_rfl) ⟨rfl, by kernel_rfl⟩ ⟨rfl, by kernel_rfl⟩ ⟨rfl, by kernel_rfl⟩ h
  obtain ⟨k, e0, _⟩ := wt_int Try.underlying3 h0
  obtain ⟨n, e1, _⟩ := wt_int Try.underlying3 h1
  obtain ⟨s, e2, hs⟩ := wt_string Try.underlying9 h2
  cases e0; cases e1; cases e2
  exact ⟨⟨k, n, s⟩, rfl, hs⟩
end Go.Vl
