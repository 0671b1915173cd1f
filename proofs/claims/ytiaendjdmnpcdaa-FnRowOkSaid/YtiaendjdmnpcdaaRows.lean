/-
  No cell of these rows narrows 'for every input' (looked for: loops, veiled, ifaces, maps, wideKeys, modest, calm, conditions, laid).
  DERIVED. THE GIVEN ROWS OF THIS SEAT. 12 by the template 'for every input the law returns true; each argument reads behind the call as it read before'; 0 by the template 'total and deterministic' (their statements: YtiaendjdmnpcdaaTotals.lean).
  GIVEN WITH THE SEED: the statements are not yours to turn. If you find one false, say at which input.
  Laid BY PROGRAM, IN A SANDBOX (cutbox-rows.mjs): the forced cells as the released guide's own fill.sh prints them over the translation f9f94e40c6163ddc… (all of the seat's roots in one cut). By AI agents, Wed Nov 11 2026. No macro, syntax, notation, axiom, sorry.
-/
import Derived.Test.YtiaendjdmnpcdaaChecked
import GoSem.Claim
import GoSem.ClaimJoined
import GoSem.ClaimMapViews
import Derived.JoinedTies
import Derived.KernelRfl
namespace Go.Proofs.Ytiaendjdmnpcdaa
/- THE CELL 'sum', in the pinned program and in every row, IS THE sha256 OF THE DUMP (.gsa) THAT YtiaendjdmnpcdaaProg.lean LOADS. Nothing in Lean hashes anything: it is a label: what it is worth is what the hold of that sum in a sandbox is worth. -/
noncomputable def Try.pinned : Pinned := { name := "ytiaendjdmnpcdaa", sum := "f9f94e40c6163ddc90d710ac1fa7ca1b43bab9156d076cf9d0f2e0d862558ec8", checked := Try.checked }
namespace Rows
def none {H : Type} : Left H := { results := [], args := [] }

/-- 'laws.FnExactConstants': WHATEVER THE INPUT: true; the input reads as it did. -/
def fnExactConstantsSpec : ChangeSpec := { name := "fnExactConstants", fn := fun _ => fun
  | [] => { results := [.lit (.bool true)], args := [] }
  | _ => none }
def fnExactConstantsRow : OpenClaim := { program := "ytiaendjdmnpcdaa", sum := "f9f94e40c6163ddc90d710ac1fa7ca1b43bab9156d076cf9d0f2e0d862558ec8", func := "loop.example/custumal/laws.FnExactConstants", spec := "fnExactConstants", apart := false }
def FnExactConstantsSaid : Prop := fnExactConstantsRow.holds Try.pinned (OpenSpec.ofChange fnExactConstantsSpec)

/-- ITS FALSE NEIGHBOUR: 'it returns false'. Refute it at one input. -/
def fnExactConstantsWrong : ChangeSpec := { name := "fnExactConstants", fn := fun _ => fun
  | [] => { results := [.lit (.bool false)], args := [] }
  | _ => none }
def FnExactConstantsWrongFalsely : Prop := fnExactConstantsRow.holds Try.pinned (OpenSpec.ofChange fnExactConstantsWrong)

/-- 'laws.FnExactValLess': WHATEVER THE INPUT: true; the input reads as it did. -/
def fnExactValLessSpec : ChangeSpec := { name := "fnExactValLess", fn := fun _ => fun
  | [d1, d2] => { results := [.lit (.bool true)], args := [d1, d2] }
  | _ => none }
def fnExactValLessRow : OpenClaim := { program := "ytiaendjdmnpcdaa", sum := "f9f94e40c6163ddc90d710ac1fa7ca1b43bab9156d076cf9d0f2e0d862558ec8", func := "loop.example/custumal/laws.FnExactValLess", spec := "fnExactValLess", apart := false }
def FnExactValLessSaid : Prop := fnExactValLessRow.holds Try.pinned (OpenSpec.ofChange fnExactValLessSpec)

/-- ITS FALSE NEIGHBOUR: 'it returns false'. Refute it at one input. -/
def fnExactValLessWrong : ChangeSpec := { name := "fnExactValLess", fn := fun _ => fun
  | [d1, d2] => { results := [.lit (.bool false)], args := [d1, d2] }
  | _ => none }
def FnExactValLessWrongFalsely : Prop := fnExactValLessRow.holds Try.pinned (OpenSpec.ofChange fnExactValLessWrong)

/-- 'laws.FnExactValOk': WHATEVER THE INPUT: true; the input reads as it did. -/
def fnExactValOkSpec : ChangeSpec := { name := "fnExactValOk", fn := fun _ => fun
  | [d] => { results := [.lit (.bool true)], args := [d] }
  | _ => none }
def fnExactValOkRow : OpenClaim := { program := "ytiaendjdmnpcdaa", sum := "f9f94e40c6163ddc90d710ac1fa7ca1b43bab9156d076cf9d0f2e0d862558ec8", func := "loop.example/custumal/laws.FnExactValOk", spec := "fnExactValOk", apart := false }
def FnExactValOkSaid : Prop := fnExactValOkRow.holds Try.pinned (OpenSpec.ofChange fnExactValOkSpec)

/-- ITS FALSE NEIGHBOUR: 'it returns false'. Refute it at one input. -/
def fnExactValOkWrong : ChangeSpec := { name := "fnExactValOk", fn := fun _ => fun
  | [d] => { results := [.lit (.bool false)], args := [d] }
  | _ => none }
def FnExactValOkWrongFalsely : Prop := fnExactValOkRow.holds Try.pinned (OpenSpec.ofChange fnExactValOkWrong)

/-- 'laws.FnValLess': WHATEVER THE INPUT: true; the input reads as it did. -/
def fnValLessSpec : ChangeSpec := { name := "fnValLess", fn := fun _ => fun
  | [d1, d2] => { results := [.lit (.bool true)], args := [d1, d2] }
  | _ => none }
def fnValLessRow : OpenClaim := { program := "ytiaendjdmnpcdaa", sum := "f9f94e40c6163ddc90d710ac1fa7ca1b43bab9156d076cf9d0f2e0d862558ec8", func := "loop.example/custumal/laws.FnValLess", spec := "fnValLess", apart := false }
def FnValLessSaid : Prop := fnValLessRow.holds Try.pinned (OpenSpec.ofChange fnValLessSpec)

/-- ITS FALSE NEIGHBOUR: 'it returns false'. Refute it at one input. -/
def fnValLessWrong : ChangeSpec := { name := "fnValLess", fn := fun _ => fun
  | [d1, d2] => { results := [.lit (.bool false)], args := [d1, d2] }
  | _ => none }
def FnValLessWrongFalsely : Prop := fnValLessRow.holds Try.pinned (OpenSpec.ofChange fnValLessWrong)

/-- 'laws.FnExactColOk': WHATEVER THE INPUT: true; the input reads as it did. -/
def fnExactColOkSpec : ChangeSpec := { name := "fnExactColOk", fn := fun _ => fun
  | [d] => { results := [.lit (.bool true)], args := [d] }
  | _ => none }
def fnExactColOkRow : OpenClaim := { program := "ytiaendjdmnpcdaa", sum := "f9f94e40c6163ddc90d710ac1fa7ca1b43bab9156d076cf9d0f2e0d862558ec8", func := "loop.example/custumal/laws.FnExactColOk", spec := "fnExactColOk", apart := false }
def FnExactColOkSaid : Prop := fnExactColOkRow.holds Try.pinned (OpenSpec.ofChange fnExactColOkSpec)

/-- ITS FALSE NEIGHBOUR: 'it returns false'. Refute it at one input. -/
def fnExactColOkWrong : ChangeSpec := { name := "fnExactColOk", fn := fun _ => fun
  | [d] => { results := [.lit (.bool false)], args := [d] }
  | _ => none }
def FnExactColOkWrongFalsely : Prop := fnExactColOkRow.holds Try.pinned (OpenSpec.ofChange fnExactColOkWrong)

/-- 'laws.FnExactShapeSame': WHATEVER THE INPUT: true; the input reads as it did. -/
def fnExactShapeSameSpec : ChangeSpec := { name := "fnExactShapeSame", fn := fun _ => fun
  | [d1, d2] => { results := [.lit (.bool true)], args := [d1, d2] }
  | _ => none }
def fnExactShapeSameRow : OpenClaim := { program := "ytiaendjdmnpcdaa", sum := "f9f94e40c6163ddc90d710ac1fa7ca1b43bab9156d076cf9d0f2e0d862558ec8", func := "loop.example/custumal/laws.FnExactShapeSame", spec := "fnExactShapeSame", apart := false }
def FnExactShapeSameSaid : Prop := fnExactShapeSameRow.holds Try.pinned (OpenSpec.ofChange fnExactShapeSameSpec)

/-- ITS FALSE NEIGHBOUR: 'it returns false'. Refute it at one input. -/
def fnExactShapeSameWrong : ChangeSpec := { name := "fnExactShapeSame", fn := fun _ => fun
  | [d1, d2] => { results := [.lit (.bool false)], args := [d1, d2] }
  | _ => none }
def FnExactShapeSameWrongFalsely : Prop := fnExactShapeSameRow.holds Try.pinned (OpenSpec.ofChange fnExactShapeSameWrong)

/-- 'laws.FnExactShapeOk': WHATEVER THE INPUT: true; the input reads as it did. -/
def fnExactShapeOkSpec : ChangeSpec := { name := "fnExactShapeOk", fn := fun _ => fun
  | [d] => { results := [.lit (.bool true)], args := [d] }
  | _ => none }
def fnExactShapeOkRow : OpenClaim := { program := "ytiaendjdmnpcdaa", sum := "f9f94e40c6163ddc90d710ac1fa7ca1b43bab9156d076cf9d0f2e0d862558ec8", func := "loop.example/custumal/laws.FnExactShapeOk", spec := "fnExactShapeOk", unfollowed := true, recurses := true, apart := false }
def FnExactShapeOkSaid : Prop := fnExactShapeOkRow.holds Try.pinned (OpenSpec.ofChange fnExactShapeOkSpec)

/-- ITS FALSE NEIGHBOUR: 'it returns false'. Refute it at one input. -/
def fnExactShapeOkWrong : ChangeSpec := { name := "fnExactShapeOk", fn := fun _ => fun
  | [d] => { results := [.lit (.bool false)], args := [d] }
  | _ => none }
def FnExactShapeOkWrongFalsely : Prop := fnExactShapeOkRow.holds Try.pinned (OpenSpec.ofChange fnExactShapeOkWrong)

/-- 'laws.FnShapeAt': WHATEVER THE INPUT: true; the input reads as it did. -/
def fnShapeAtSpec : ChangeSpec := { name := "fnShapeAt", fn := fun _ => fun
  | [d] => { results := [.lit (.bool true)], args := [d] }
  | _ => none }
def fnShapeAtRow : OpenClaim := { program := "ytiaendjdmnpcdaa", sum := "f9f94e40c6163ddc90d710ac1fa7ca1b43bab9156d076cf9d0f2e0d862558ec8", func := "loop.example/custumal/laws.FnShapeAt", spec := "fnShapeAt", unfollowed := true, recurses := true, apart := false }
def FnShapeAtSaid : Prop := fnShapeAtRow.holds Try.pinned (OpenSpec.ofChange fnShapeAtSpec)

/-- ITS FALSE NEIGHBOUR: 'it returns false'. Refute it at one input. -/
def fnShapeAtWrong : ChangeSpec := { name := "fnShapeAt", fn := fun _ => fun
  | [d] => { results := [.lit (.bool false)], args := [d] }
  | _ => none }
def FnShapeAtWrongFalsely : Prop := fnShapeAtRow.holds Try.pinned (OpenSpec.ofChange fnShapeAtWrong)

/-- 'laws.FnExactShapeAt': WHATEVER THE INPUT: true; the input reads as it did. -/
def fnExactShapeAtSpec : ChangeSpec := { name := "fnExactShapeAt", fn := fun _ => fun
  | [d1, d2] => { results := [.lit (.bool true)], args := [d1, d2] }
  | _ => none }
def fnExactShapeAtRow : OpenClaim := { program := "ytiaendjdmnpcdaa", sum := "f9f94e40c6163ddc90d710ac1fa7ca1b43bab9156d076cf9d0f2e0d862558ec8", func := "loop.example/custumal/laws.FnExactShapeAt", spec := "fnExactShapeAt", unfollowed := true, recurses := true, apart := false }
def FnExactShapeAtSaid : Prop := fnExactShapeAtRow.holds Try.pinned (OpenSpec.ofChange fnExactShapeAtSpec)

/-- ITS FALSE NEIGHBOUR: 'it returns false'. Refute it at one input. -/
def fnExactShapeAtWrong : ChangeSpec := { name := "fnExactShapeAt", fn := fun _ => fun
  | [d1, d2] => { results := [.lit (.bool false)], args := [d1, d2] }
  | _ => none }
def FnExactShapeAtWrongFalsely : Prop := fnExactShapeAtRow.holds Try.pinned (OpenSpec.ofChange fnExactShapeAtWrong)

/-- 'laws.FnShapeBent': WHATEVER THE INPUT: true; the input reads as it did. -/
def fnShapeBentSpec : ChangeSpec := { name := "fnShapeBent", fn := fun _ => fun
  | [d] => { results := [.lit (.bool true)], args := [d] }
  | _ => none }
def fnShapeBentRow : OpenClaim := { program := "ytiaendjdmnpcdaa", sum := "f9f94e40c6163ddc90d710ac1fa7ca1b43bab9156d076cf9d0f2e0d862558ec8", func := "loop.example/custumal/laws.FnShapeBent", spec := "fnShapeBent", unfollowed := true, recurses := true, apart := false }
def FnShapeBentSaid : Prop := fnShapeBentRow.holds Try.pinned (OpenSpec.ofChange fnShapeBentSpec)

/-- ITS FALSE NEIGHBOUR: 'it returns false'. Refute it at one input. -/
def fnShapeBentWrong : ChangeSpec := { name := "fnShapeBent", fn := fun _ => fun
  | [d] => { results := [.lit (.bool false)], args := [d] }
  | _ => none }
def FnShapeBentWrongFalsely : Prop := fnShapeBentRow.holds Try.pinned (OpenSpec.ofChange fnShapeBentWrong)

/-- 'laws.FnRowOk': WHATEVER THE INPUT: true; the input reads as it did. -/
def fnRowOkSpec : ChangeSpec := { name := "fnRowOk", fn := fun _ => fun
  | [d] => { results := [.lit (.bool true)], args := [d] }
  | _ => none }
def fnRowOkRow : OpenClaim := { program := "ytiaendjdmnpcdaa", sum := "f9f94e40c6163ddc90d710ac1fa7ca1b43bab9156d076cf9d0f2e0d862558ec8", func := "loop.example/custumal/laws.FnRowOk", spec := "fnRowOk", unfollowed := true, recurses := true, apart := false }
def FnRowOkSaid : Prop := fnRowOkRow.holds Try.pinned (OpenSpec.ofChange fnRowOkSpec)

/-- ITS FALSE NEIGHBOUR: 'it returns false'. Refute it at one input. -/
def fnRowOkWrong : ChangeSpec := { name := "fnRowOk", fn := fun _ => fun
  | [d] => { results := [.lit (.bool false)], args := [d] }
  | _ => none }
def FnRowOkWrongFalsely : Prop := fnRowOkRow.holds Try.pinned (OpenSpec.ofChange fnRowOkWrong)

/-- 'laws.FnExactRowOk': WHATEVER THE INPUT: true; the input reads as it did. -/
def fnExactRowOkSpec : ChangeSpec := { name := "fnExactRowOk", fn := fun _ => fun
  | [d1, d2] => { results := [.lit (.bool true)], args := [d1, d2] }
  | _ => none }
def fnExactRowOkRow : OpenClaim := { program := "ytiaendjdmnpcdaa", sum := "f9f94e40c6163ddc90d710ac1fa7ca1b43bab9156d076cf9d0f2e0d862558ec8", func := "loop.example/custumal/laws.FnExactRowOk", spec := "fnExactRowOk", unfollowed := true, recurses := true, apart := false }
def FnExactRowOkSaid : Prop := fnExactRowOkRow.holds Try.pinned (OpenSpec.ofChange fnExactRowOkSpec)

/-- ITS FALSE NEIGHBOUR: 'it returns false'. Refute it at one input. -/
def fnExactRowOkWrong : ChangeSpec := { name := "fnExactRowOk", fn := fun _ => fun
  | [d1, d2] => { results := [.lit (.bool false)], args := [d1, d2] }
  | _ => none }
def FnExactRowOkWrongFalsely : Prop := fnExactRowOkRow.holds Try.pinned (OpenSpec.ofChange fnExactRowOkWrong)

/- THE SECOND FORM. 'bulk': how many values and letters a reading holds, each counted each time it is reached (what is shared counts as often as it is met; a slice's spare places count too). A statement '..UptoSaid' is the law's where the arguments, and the package variables that the reading takes, are together of bulk at most 1048576: NARROWER than '..Said'. Prove '..Said' where nothing that the law and all that it calls make is longer than what came in: it says more and counts as full. Else prove '..UptoSaid'. A law counts once. -/
mutual
def uptoBulk {H : Type} : DataW H → Nat
  | .lit (.string bytes) => bytes.length + 1
  | .lit _ => 1
  | .nil => 1
  | .ptr d => uptoBulk d + 1
  | .slice elems spare => uptoBulkAll elems + uptoBulkAll spare + 1
  | .agg parts => uptoBulkAll parts + 1
  | .iface _ d => uptoBulk d + 1
  | .map entries => uptoBulkEntries entries + 1
  | .held _ => 1
def uptoBulkAll {H : Type} : List (DataW H) → Nat
  | [] => 0
  | d :: r => uptoBulk d + uptoBulkAll r
def uptoBulkEntries {H : Type} : List (Lit × DataW H) → Nat
  | [] => 0
  | x :: r => uptoBulkEntry x + uptoBulkEntries r
def uptoBulkEntry {H : Type} : Lit × DataW H → Nat
  | (.string bytes, d) => bytes.length + uptoBulk d + 1
  | (_, d) => uptoBulk d + 1
 end
def uptoSmall : (H : Type) → List (DataW H) → Bool := fun _ ds => decide (uptoBulkAll ds ≤ 1048576)
def OpenSpec.upto (s : _root_.Go.ChangeSpec) : _root_.Go.OpenSpec := { _root_.Go.OpenSpec.ofChange s with cond := some uptoSmall }

/-- 'laws.FnExactConstants', WHERE WHAT IT READS IS OF BULK AT MOST 1048576: true; the input reads as it did. -/
def fnExactConstantsUptoRow : OpenClaim := { program := "ytiaendjdmnpcdaa", sum := "f9f94e40c6163ddc90d710ac1fa7ca1b43bab9156d076cf9d0f2e0d862558ec8", func := "loop.example/custumal/laws.FnExactConstants", spec := "fnExactConstants", apart := false, narrowed := true }
def FnExactConstantsUptoSaid : Prop := fnExactConstantsUptoRow.holds Try.pinned (OpenSpec.upto fnExactConstantsSpec)

/-- 'laws.FnExactValLess', WHERE WHAT IT READS IS OF BULK AT MOST 1048576: true; the input reads as it did. -/
def fnExactValLessUptoRow : OpenClaim := { program := "ytiaendjdmnpcdaa", sum := "f9f94e40c6163ddc90d710ac1fa7ca1b43bab9156d076cf9d0f2e0d862558ec8", func := "loop.example/custumal/laws.FnExactValLess", spec := "fnExactValLess", apart := false, narrowed := true }
def FnExactValLessUptoSaid : Prop := fnExactValLessUptoRow.holds Try.pinned (OpenSpec.upto fnExactValLessSpec)

/-- 'laws.FnExactValOk', WHERE WHAT IT READS IS OF BULK AT MOST 1048576: true; the input reads as it did. -/
def fnExactValOkUptoRow : OpenClaim := { program := "ytiaendjdmnpcdaa", sum := "f9f94e40c6163ddc90d710ac1fa7ca1b43bab9156d076cf9d0f2e0d862558ec8", func := "loop.example/custumal/laws.FnExactValOk", spec := "fnExactValOk", apart := false, narrowed := true }
def FnExactValOkUptoSaid : Prop := fnExactValOkUptoRow.holds Try.pinned (OpenSpec.upto fnExactValOkSpec)

/-- 'laws.FnValLess', WHERE WHAT IT READS IS OF BULK AT MOST 1048576: true; the input reads as it did. -/
def fnValLessUptoRow : OpenClaim := { program := "ytiaendjdmnpcdaa", sum := "f9f94e40c6163ddc90d710ac1fa7ca1b43bab9156d076cf9d0f2e0d862558ec8", func := "loop.example/custumal/laws.FnValLess", spec := "fnValLess", apart := false, narrowed := true }
def FnValLessUptoSaid : Prop := fnValLessUptoRow.holds Try.pinned (OpenSpec.upto fnValLessSpec)

/-- 'laws.FnExactColOk', WHERE WHAT IT READS IS OF BULK AT MOST 1048576: true; the input reads as it did. -/
def fnExactColOkUptoRow : OpenClaim := { program := "ytiaendjdmnpcdaa", sum := "f9f94e40c6163ddc90d710ac1fa7ca1b43bab9156d076cf9d0f2e0d862558ec8", func := "loop.example/custumal/laws.FnExactColOk", spec := "fnExactColOk", apart := false, narrowed := true }
def FnExactColOkUptoSaid : Prop := fnExactColOkUptoRow.holds Try.pinned (OpenSpec.upto fnExactColOkSpec)

/-- 'laws.FnExactShapeSame', WHERE WHAT IT READS IS OF BULK AT MOST 1048576: true; the input reads as it did. -/
def fnExactShapeSameUptoRow : OpenClaim := { program := "ytiaendjdmnpcdaa", sum := "f9f94e40c6163ddc90d710ac1fa7ca1b43bab9156d076cf9d0f2e0d862558ec8", func := "loop.example/custumal/laws.FnExactShapeSame", spec := "fnExactShapeSame", apart := false, narrowed := true }
def FnExactShapeSameUptoSaid : Prop := fnExactShapeSameUptoRow.holds Try.pinned (OpenSpec.upto fnExactShapeSameSpec)

/-- 'laws.FnExactShapeOk', WHERE WHAT IT READS IS OF BULK AT MOST 1048576: true; the input reads as it did. -/
def fnExactShapeOkUptoRow : OpenClaim := { program := "ytiaendjdmnpcdaa", sum := "f9f94e40c6163ddc90d710ac1fa7ca1b43bab9156d076cf9d0f2e0d862558ec8", func := "loop.example/custumal/laws.FnExactShapeOk", spec := "fnExactShapeOk", unfollowed := true, recurses := true, apart := false, narrowed := true }
def FnExactShapeOkUptoSaid : Prop := fnExactShapeOkUptoRow.holds Try.pinned (OpenSpec.upto fnExactShapeOkSpec)

/-- 'laws.FnShapeAt', WHERE WHAT IT READS IS OF BULK AT MOST 1048576: true; the input reads as it did. -/
def fnShapeAtUptoRow : OpenClaim := { program := "ytiaendjdmnpcdaa", sum := "f9f94e40c6163ddc90d710ac1fa7ca1b43bab9156d076cf9d0f2e0d862558ec8", func := "loop.example/custumal/laws.FnShapeAt", spec := "fnShapeAt", unfollowed := true, recurses := true, apart := false, narrowed := true }
def FnShapeAtUptoSaid : Prop := fnShapeAtUptoRow.holds Try.pinned (OpenSpec.upto fnShapeAtSpec)

/-- 'laws.FnExactShapeAt', WHERE WHAT IT READS IS OF BULK AT MOST 1048576: true; the input reads as it did. -/
def fnExactShapeAtUptoRow : OpenClaim := { program := "ytiaendjdmnpcdaa", sum := "f9f94e40c6163ddc90d710ac1fa7ca1b43bab9156d076cf9d0f2e0d862558ec8", func := "loop.example/custumal/laws.FnExactShapeAt", spec := "fnExactShapeAt", unfollowed := true, recurses := true, apart := false, narrowed := true }
def FnExactShapeAtUptoSaid : Prop := fnExactShapeAtUptoRow.holds Try.pinned (OpenSpec.upto fnExactShapeAtSpec)

/-- 'laws.FnShapeBent', WHERE WHAT IT READS IS OF BULK AT MOST 1048576: true; the input reads as it did. -/
def fnShapeBentUptoRow : OpenClaim := { program := "ytiaendjdmnpcdaa", sum := "f9f94e40c6163ddc90d710ac1fa7ca1b43bab9156d076cf9d0f2e0d862558ec8", func := "loop.example/custumal/laws.FnShapeBent", spec := "fnShapeBent", unfollowed := true, recurses := true, apart := false, narrowed := true }
def FnShapeBentUptoSaid : Prop := fnShapeBentUptoRow.holds Try.pinned (OpenSpec.upto fnShapeBentSpec)

/-- 'laws.FnRowOk', WHERE WHAT IT READS IS OF BULK AT MOST 1048576: true; the input reads as it did. -/
def fnRowOkUptoRow : OpenClaim := { program := "ytiaendjdmnpcdaa", sum := "f9f94e40c6163ddc90d710ac1fa7ca1b43bab9156d076cf9d0f2e0d862558ec8", func := "loop.example/custumal/laws.FnRowOk", spec := "fnRowOk", unfollowed := true, recurses := true, apart := false, narrowed := true }
def FnRowOkUptoSaid : Prop := fnRowOkUptoRow.holds Try.pinned (OpenSpec.upto fnRowOkSpec)

/-- 'laws.FnExactRowOk', WHERE WHAT IT READS IS OF BULK AT MOST 1048576: true; the input reads as it did. -/
def fnExactRowOkUptoRow : OpenClaim := { program := "ytiaendjdmnpcdaa", sum := "f9f94e40c6163ddc90d710ac1fa7ca1b43bab9156d076cf9d0f2e0d862558ec8", func := "loop.example/custumal/laws.FnExactRowOk", spec := "fnExactRowOk", unfollowed := true, recurses := true, apart := false, narrowed := true }
def FnExactRowOkUptoSaid : Prop := fnExactRowOkUptoRow.holds Try.pinned (OpenSpec.upto fnExactRowOkSpec)

end Rows
end Go.Proofs.Ytiaendjdmnpcdaa
