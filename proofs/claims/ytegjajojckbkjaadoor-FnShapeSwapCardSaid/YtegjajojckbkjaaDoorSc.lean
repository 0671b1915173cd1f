/- Contracts: a value's text. -/
import Derived.Test.YtegjajojckbkjaaDoorSb
namespace Go.Vl
open Go Go.RowKit Go.Proofs
set_option maxRecDepth 100000
set_option linter.unusedSimpArgs false
set_option linter.unusedVariables false
set_option maxHeartbeats 800000

def valText (v : Val) : ByteArray := if valOk v then (if v.k = 1 then bl (Lib.itoa v.n) else if v.k = 2 then ⟨#[39]⟩ ++ v.t ++ ⟨#[39]⟩ else ⟨#[110, 111, 110, 101]⟩) else ⟨#[]⟩
theorem valOk_num {v : Val} (h : valOk v = true) (hk : v.k = 1) : -999 ≤ v.n ∧ v.n ≤ 999 := by
  simp [valOk, hk] at h; omega
theorem valOk_text {v : Val} (h : valOk v = true) (hk : v.k = 2) : v.t.size ≤ 4 := by
  simp [valOk, hk, textOk] at h; omega
theorem valOk_kind {v : Val} (h : valOk v = true) : v.k = 0 ∨ v.k = 1 ∨ v.k = 2 := by
  unfold valOk at h; split at h; exact .inl ‹_›; split at h; exact .inr (.inl ‹_›); split at h; exact .inr (.inr ‹_›); cases h
end Go.Vl
