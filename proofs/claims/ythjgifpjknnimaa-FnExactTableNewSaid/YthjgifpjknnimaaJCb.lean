/- Contracts of Go's library, taken over from what is laid of the shelf. Contracts: a number in decimals, as the reference writes it. Contracts: a value's text. Contracts: a text as a number, as the reference reads it. The plain law of numerals: what the reference reads as a number is that number's own numeral. Contracts: a text as a number, as the program reads it. Contracts: a value as one of another kind. Contracts: a change of columns: what it names. Contracts: a value read from its text. The plain laws of values: what is turned into another kind, and what is read. Contracts: columns behind a change. Contracts: columns behind a change, of both; the reference's way. Contracts: columns behind a change, the reference's; a row behind a change, of both. Contracts: a row behind a change; columns behind several. Plain laws: columns behind a change. Laws: a row behind a change of columns. -/
import Derived.Test.YthjgifpjknnimaaJCa
import Derived.Test.YthjgifpjknnimaaWi
import Derived.Test.YthjgifpjknnimaaSh
import Derived.Lib.ItoaLen
set_option linter.unusedSimpArgs false
set_option linter.unusedVariables false

namespace Go.Vl
open Go Go.RowKit Go.Proofs
set_option maxRecDepth 100000
set_option linter.unusedSimpArgs false
set_option linter.unusedVariables false
set_option maxHeartbeats 400000

def bl (l : List UInt8) : ByteArray := ⟨l.toArray⟩
end Go.Vl

namespace Go.Vl
open Go Go.RowKit Go.Proofs
set_option maxRecDepth 100000
set_option linter.unusedSimpArgs false
set_option linter.unusedVariables false
set_option maxHeartbeats 800000

theorem bl_app (a b : List UInt8) : bl (a ++ b) = bl a ++ bl b := by
  apply ByteArray.ext; simp [bl]
theorem bl_one (n : Nat) (h : n < 10) : bsOf [IntKind.u8.wrap (IntKind.i64.wrap (48 + (n : Int)))] = bl [UInt8.ofNat (48 + n)] := by
  have : IntKind.u8.wrap (IntKind.i64.wrap (48 + (n : Int))) = ((48 + n : Nat) : Int) := by
    rw [IntKind.wrap_i64, IntKind.wrap_u8]; omega
  rw [this]; rfl
def decB (n : Nat) : ByteArray := bl (Lib.decDigits n)
theorem decB_step {n : Nat} (h : ¬ n < 10) : decB n = decB (n / 10) ++ bl [UInt8.ofNat (48 + n % 10)] := by
  unfold decB; rw [Lib.decDigits, dif_neg h, bl_app]
theorem decB_end {n : Nat} (h : n < 10) : decB n = bl [UInt8.ofNat (48 + n)] := by
  unfold decB; rw [Lib.decDigits, dif_pos h]
theorem decB_size (n : Nat) : (decB n).size = Lib.nDigits n := by
  rw [← Lib.decDigits_length]; simp [decB, bl, ByteArray.size]
end Go.Vl

namespace Go.Vl
open Go Go.RowKit Go.Proofs
set_option maxRecDepth 100000
set_option linter.unusedSimpArgs false
set_option linter.unusedVariables false
set_option maxHeartbeats 800000

end Go.Vl

namespace Go.Vl
open Go Go.RowKit Go.Proofs
set_option maxRecDepth 100000
set_option linter.unusedSimpArgs false
set_option linter.unusedVariables false
set_option maxHeartbeats 800000

def valD : Nat → List UInt8 → Option Nat
  | acc, [] => some acc
  | acc, c :: r => if 48 ≤ c.toNat ∧ c.toNat ≤ 57 then valD (acc * 10 + (c.toNat - 48)) r else none
def numR (neg : Bool) (l : List UInt8) : Option Int :=
  if l.length = 0 ∨ 17 < l.length ∨ (l.head? = some 48 ∧ (1 < l.length ∨ neg = true)) then none else (valD 0 l).map fun (n : Nat) => if neg then -(n : Int) else n
def numOf (l : List UInt8) : Option Int := if l.head? = some 45 then numR true l.tail else numR false l
end Go.Vl

namespace Go.Vl
open Go Go.RowKit Go.Proofs
set_option maxRecDepth 100000
set_option linter.unusedSimpArgs false
set_option linter.unusedVariables false

end Go.Vl

namespace Go.Vl
open Go Go.RowKit Go.Proofs
set_option maxRecDepth 100000
set_option linter.unusedSimpArgs false
set_option linter.unusedVariables false
set_option maxHeartbeats 800000

def numV (t : ByteArray) : Val := match numOf t.data.toList with
  | some n => if -999 ≤ n ∧ n ≤ 999 then ⟨1, n, ⟨#[]⟩⟩ else ⟨0, 0, ⟨#[]⟩⟩
  | none => ⟨0, 0, ⟨#[]⟩⟩
end Go.Vl

namespace Go.Vl
open Go Go.RowKit Go.Proofs
set_option maxRecDepth 100000
set_option linter.unusedSimpArgs false
set_option linter.unusedVariables false
set_option maxHeartbeats 800000

def valAs (v : Val) (kd : Int) : Val := if valOk v = true ∧ (kd = 1 ∨ kd = 2) ∧ v.k ≠ 0 then (if v.k = kd then v else if kd = 2 then ⟨2, 0, bl (Lib.itoa v.n)⟩ else numV v.t) else ⟨0, 0, ⟨#[]⟩⟩
end Go.Vl

namespace Go.Vl
open Go Go.RowKit Go.Proofs
set_option maxRecDepth 100000
set_option linter.unusedSimpArgs false
set_option linter.unusedVariables false
set_option maxHeartbeats 2000000

def kCol (k : Int) : Col := ⟨⟨#[]⟩, k, false, false, ⟨0, 0, ⟨#[]⟩⟩⟩
def namedB (c : Change) : Bool :=
  if c.kind = 1 then (⟨#[]⟩ : ByteArray).toList == c.name.toList && (⟨#[]⟩ : ByteArray).toList == c.new.toList
  else if c.kind = 2 then (⟨#[]⟩ : ByteArray).toList == c.new.toList && q_Col (kCol 0) c.col
  else if c.kind = 3 then q_Col (kCol 0) c.col
  else if c.kind = 4 then (⟨#[]⟩ : ByteArray).toList == c.new.toList && q_Col (kCol c.col.kind) c.col
  else false
end Go.Vl

namespace Go.Vl
open Go Go.RowKit Go.Proofs
set_option maxRecDepth 100000
set_option linter.unusedSimpArgs false
set_option linter.unusedVariables false
set_option maxHeartbeats 1600000

-- what the program does
-- what the reference does
end Go.Vl

namespace Go.Vl
open Go Go.RowKit Go.Proofs
set_option maxRecDepth 100000
set_option linter.unusedSimpArgs false
set_option linter.unusedVariables false
set_option maxHeartbeats 1600000

-- what is read
end Go.Vl

namespace Go.Vl
open Go Go.RowKit Go.Proofs
set_option maxRecDepth 100000
set_option linter.unusedSimpArgs false
set_option linter.unusedVariables false
set_option maxHeartbeats 4000000

def Col.md (c : Col) : Prop := c.name.size ≤ 1048576 ∧ c.d.t.size ≤ 1048576
def mdCols (l : List Col) : Prop := ∀ x ∈ l, x.md
def Change.md (c : Change) : Prop := c.name.size ≤ 1048576 ∧ c.new.size ≤ 1048576 ∧ c.col.md
def ccName (x : Col) (s : ByteArray) : Col := ⟨s, x.kind, x.need, x.once, x.d⟩
def ccKind (x : Col) (k : Int) : Col := ⟨x.name, k, x.need, x.once, valAs x.d k⟩
def chDo (s : List Col) (c : Change) : Option (List Col) :=
  if namedB c = false then none
  else if c.kind = 1 then (if c.col.need = true ∧ c.col.d.k = 0 then none else some (s ++ [c.col]))
  else if nameAt s c.name < 0 then none
  else if c.kind = 2 then some (s.eraseIdx (nameAt s c.name).toNat)
  else if c.kind = 3 then some (s.set (nameAt s c.name).toNat (ccName (s.getD (nameAt s c.name).toNat (kCol 0)) c.new))
  else if c.col.kind = (s.getD (nameAt s c.name).toNat (kCol 0)).kind then none
  else some (s.set (nameAt s c.name).toNat (ccKind (s.getD (nameAt s c.name).toNat (kCol 0)) c.col.kind))
def okO (s : List Col) (o : Option (List Col)) : List Col × Bool := match o with
  | some out => if shapeOk out then (out, true) else (s, false)
  | none => (s, false)
def shDo (s : List Col) (c : Change) : List Col × Bool := okO s (chDo s c)
theorem mdCols.ok {l : List Col} (h : mdCols l) : ∀ c ∈ l, c.ok := fun c hc => ⟨by have := (h c hc).1; unfold maxLen; omega, by have := (h c hc).2; show c.d.t.size ≤ maxLen; unfold maxLen; omega⟩
theorem mdCols.set {l : List Col} {c : Col} {i : Nat} (h : mdCols l) (hc : c.md) : mdCols (l.set i c) := by
  intro x hx
  rcases List.mem_or_eq_of_mem_set hx with hx | rfl
  · exact h x hx
  · exact hc
end Go.Vl

namespace Go.Vl
open Go Go.RowKit Go.Proofs
set_option maxRecDepth 100000
set_option linter.unusedSimpArgs false
set_option linter.unusedVariables false
set_option maxHeartbeats 4000000

end Go.Vl

namespace Go.Vl
open Go Go.RowKit Go.Proofs
set_option maxRecDepth 100000
set_option linter.unusedSimpArgs false
set_option linter.unusedVariables false
set_option maxHeartbeats 4000000

-- rows
def Val.md (v : Val) : Prop := v.t.size ≤ 1048576
def mdVals (l : List Val) : Prop := ∀ x ∈ l, x.md
def rwCh (s : List Col) (c : Change) (row : List Val) : List Val :=
  if c.kind = 1 then row ++ [c.col.d]
  else if c.kind = 2 then row.eraseIdx (nameAt s c.name).toNat
  else if c.kind = 4 then row.set (nameAt s c.name).toNat (valAs (row.getD (nameAt s c.name).toNat ⟨0, 0, ⟨#[]⟩⟩) c.col.kind)
  else row
end Go.Vl

namespace Go.Vl
open Go Go.RowKit Go.Proofs
set_option maxRecDepth 100000
set_option linter.unusedSimpArgs false
set_option linter.unusedVariables false
set_option maxHeartbeats 4000000

-- several changes
def chGo : List Col → List Change → Option (List Col)
  | s, [] => some s
  | s, c :: cs => if (shDo s c).2 = true then chGo (shDo s c).1 cs else none
def allS : Option (List Col) → List Col × Bool
  | some L => (L, true)
  | none => ([], false)
def mdChs (l : List Change) : Prop := ∀ x ∈ l, x.md
def shAll (s : List Col) (list : List Change) : List Col × Bool := if shapeOk s = true then allS (chGo s list) else ([], false)
end Go.Vl

namespace Go.Vl
open Go Go.RowKit Go.Proofs
set_option maxRecDepth 100000
set_option linter.unusedSimpArgs false
set_option linter.unusedVariables false
set_option maxHeartbeats 1000000

/-- What a change that is done does. -/
structure Done (s : List Col) (c : Change) (x : List Col) : Prop where
  hs : shapeOk s = true
  hx : shapeOk x = true
  n : namedB c = true
  d : chDo s c = some x
  w : (c.kind = 1 ∧ ¬ (c.col.need = true ∧ c.col.d.k = 0) ∧ x = s ++ [c.col]) ∨
      ∃ j, ∃ hj : j < s.length, s[j].name = c.name ∧ nameAt s c.name = (j : Int) ∧
        ((c.kind = 2 ∧ x = s.eraseIdx j) ∨ (c.kind = 3 ∧ x = s.set j (ccName s[j] c.new)) ∨ (c.kind = 4 ∧ c.col.kind ≠ s[j].kind ∧ x = s.set j (ccKind s[j] c.col.kind)))
theorem fzC (x : List Col) : ((x.map encCol).drop 0).take x.length = x.map encCol := by rw [List.drop_zero, List.take_of_length_le (by simp)]
end Go.Vl

namespace Go.Vl
open Go Go.RowKit Go.Proofs
set_option maxRecDepth 100000
set_option linter.unusedSimpArgs false
set_option linter.unusedVariables false
set_option maxHeartbeats 4000000


-- plain
end Go.Vl
