/-
  No cell of these rows narrows 'for every input' (looked for: loops, veiled, ifaces, maps, wideKeys, modest, calm, conditions, laid).
  DERIVED. THE GIVEN ROWS OF THIS SEAT. 4 by the template 'for every input the law returns true; each argument reads behind the call as it read before'; 0 by the template 'total and deterministic' (their statements: YtjimcjldpdgofaaTotals.lean).
  GIVEN WITH THE SEED: the statements are not yours to turn. If you find one false, say at which input.
  Laid BY PROGRAM, IN A SANDBOX (cutbox-rows.mjs): the forced cells as the released guide's own fill.sh prints them over the translation 4092b1e24c87218b… (all of the seat's roots in one cut). By AI agents, Wed Nov 11 2026. No macro, syntax, notation, axiom, sorry.
-/
import Derived.Test.YtjimcjldpdgofaaChecked
import GoSem.Claim
import GoSem.ClaimJoined
import GoSem.ClaimMapViews
import Derived.JoinedTies
import Derived.KernelRfl
namespace Go.Proofs.Ytjimcjldpdgofaa
/- THE CELL 'sum', in the pinned program and in every row, IS THE sha256 OF THE DUMP (.gsa) THAT YtjimcjldpdgofaaProg.lean LOADS. Nothing in Lean hashes anything: it is a label: what it is worth is what the hold of that sum in a sandbox is worth. -/
noncomputable def Try.pinned : Pinned := { name := "ytjimcjldpdgofaa", sum := "4092b1e24c87218b0583dc3484e61188b85a6aab9ca51a5b42cbd2cdf702bfea", checked := Try.checked }
namespace Rows
def none {H : Type} : Left H := { results := [], args := [] }

/-- 'laws.FnExactTableSame': WHATEVER THE INPUT: true; the input reads as it did. -/
def fnExactTableSameSpec : ChangeSpec := { name := "fnExactTableSame", fn := fun _ => fun
  | [d1, d2] => { results := [.lit (.bool true)], args := [d1, d2] }
  | _ => none }
def fnExactTableSameRow : OpenClaim := { program := "ytjimcjldpdgofaa", sum := "4092b1e24c87218b0583dc3484e61188b85a6aab9ca51a5b42cbd2cdf702bfea", func := "loop.example/custumal/laws.FnExactTableSame", spec := "fnExactTableSame", unfollowed := true, recurses := true, apart := false }
def FnExactTableSameSaid : Prop := fnExactTableSameRow.holds Try.pinned (OpenSpec.ofChange fnExactTableSameSpec)

/-- ITS FALSE NEIGHBOUR: 'it returns false'. Refute it at one input. -/
def fnExactTableSameWrong : ChangeSpec := { name := "fnExactTableSame", fn := fun _ => fun
  | [d1, d2] => { results := [.lit (.bool false)], args := [d1, d2] }
  | _ => none }
def FnExactTableSameWrongFalsely : Prop := fnExactTableSameRow.holds Try.pinned (OpenSpec.ofChange fnExactTableSameWrong)

/-- 'laws.FnExactActOk': WHATEVER THE INPUT: true; the input reads as it did. -/
def fnExactActOkSpec : ChangeSpec := { name := "fnExactActOk", fn := fun _ => fun
  | [d] => { results := [.lit (.bool true)], args := [d] }
  | _ => none }
def fnExactActOkRow : OpenClaim := { program := "ytjimcjldpdgofaa", sum := "4092b1e24c87218b0583dc3484e61188b85a6aab9ca51a5b42cbd2cdf702bfea", func := "loop.example/custumal/laws.FnExactActOk", spec := "fnExactActOk", unfollowed := true, recurses := true, apart := false }
def FnExactActOkSaid : Prop := fnExactActOkRow.holds Try.pinned (OpenSpec.ofChange fnExactActOkSpec)

/-- ITS FALSE NEIGHBOUR: 'it returns false'. Refute it at one input. -/
def fnExactActOkWrong : ChangeSpec := { name := "fnExactActOk", fn := fun _ => fun
  | [d] => { results := [.lit (.bool false)], args := [d] }
  | _ => none }
def FnExactActOkWrongFalsely : Prop := fnExactActOkRow.holds Try.pinned (OpenSpec.ofChange fnExactActOkWrong)

/-- 'laws.FnExactTableNew': WHATEVER THE INPUT: true; the input reads as it did. -/
def fnExactTableNewSpec : ChangeSpec := { name := "fnExactTableNew", fn := fun _ => fun
  | [d] => { results := [.lit (.bool true)], args := [d] }
  | _ => none }
def fnExactTableNewRow : OpenClaim := { program := "ytjimcjldpdgofaa", sum := "4092b1e24c87218b0583dc3484e61188b85a6aab9ca51a5b42cbd2cdf702bfea", func := "loop.example/custumal/laws.FnExactTableNew", spec := "fnExactTableNew", unfollowed := true, recurses := true, apart := false }
def FnExactTableNewSaid : Prop := fnExactTableNewRow.holds Try.pinned (OpenSpec.ofChange fnExactTableNewSpec)

/-- ITS FALSE NEIGHBOUR: 'it returns false'. Refute it at one input. -/
def fnExactTableNewWrong : ChangeSpec := { name := "fnExactTableNew", fn := fun _ => fun
  | [d] => { results := [.lit (.bool false)], args := [d] }
  | _ => none }
def FnExactTableNewWrongFalsely : Prop := fnExactTableNewRow.holds Try.pinned (OpenSpec.ofChange fnExactTableNewWrong)

/-- 'laws.FnExactBaseSame': WHATEVER THE INPUT: true; the input reads as it did. -/
def fnExactBaseSameSpec : ChangeSpec := { name := "fnExactBaseSame", fn := fun _ => fun
  | [d1, d2] => { results := [.lit (.bool true)], args := [d1, d2] }
  | _ => none }
def fnExactBaseSameRow : OpenClaim := { program := "ytjimcjldpdgofaa", sum := "4092b1e24c87218b0583dc3484e61188b85a6aab9ca51a5b42cbd2cdf702bfea", func := "loop.example/custumal/laws.FnExactBaseSame", spec := "fnExactBaseSame", unfollowed := true, recurses := true, apart := false }
def FnExactBaseSameSaid : Prop := fnExactBaseSameRow.holds Try.pinned (OpenSpec.ofChange fnExactBaseSameSpec)

/-- ITS FALSE NEIGHBOUR: 'it returns false'. Refute it at one input. -/
def fnExactBaseSameWrong : ChangeSpec := { name := "fnExactBaseSame", fn := fun _ => fun
  | [d1, d2] => { results := [.lit (.bool false)], args := [d1, d2] }
  | _ => none }
def FnExactBaseSameWrongFalsely : Prop := fnExactBaseSameRow.holds Try.pinned (OpenSpec.ofChange fnExactBaseSameWrong)

/- THE SECOND FORM. 'bulk': how many values and letters a reading holds, each counted each time it is reached (what is shared counts as often as it is met; a slice's spare places count too). A statement '..UptoSaid' is the law's where the arguments, and the package variables that the reading takes, are together of bulk at most 1048576: NARROWER than '..Said'. Prove '..Said' where nothing that the law and all that it calls make is longer than what came in: it says more and counts as full. Else prove '..UptoSaid'. A law counts once. -/
mutual
def uptoBulk {H : Type} : DataW H → Nat
  | .lit (.string bytes) => bytes.length + 1
  | .lit _ => 1
  | .nil => 1
  | .ptr d => uptoBulk d + 1
  | .slice elems spare => uptoBulkAll elems + uptoBulkAll spare + 1
  | .agg parts => uptoBulkAll parts + 1
  | .iface _ d => uptoBulk d + 1
  | .map entries => uptoBulkEntries entries + 1
  | .held _ => 1
def uptoBulkAll {H : Type} : List (DataW H) → Nat
  | [] => 0
  | d :: r => uptoBulk d + uptoBulkAll r
def uptoBulkEntries {H : Type} : List (Lit × DataW H) → Nat
  | [] => 0
  | x :: r => uptoBulkEntry x + uptoBulkEntries r
def uptoBulkEntry {H : Type} : Lit × DataW H → Nat
  | (.string bytes, d) => bytes.length + uptoBulk d + 1
  | (_, d) => uptoBulk d + 1
 end
def uptoSmall : (H : Type) → List (DataW H) → Bool := fun _ ds => decide (uptoBulkAll ds ≤ 1048576)
def OpenSpec.upto (s : _root_.Go.ChangeSpec) : _root_.Go.OpenSpec := { _root_.Go.OpenSpec.ofChange s with cond := some uptoSmall }

/-- 'laws.FnExactTableSame', WHERE WHAT IT READS IS OF BULK AT MOST 1048576: true; the input reads as it did. -/
def fnExactTableSameUptoRow : OpenClaim := { program := "ytjimcjldpdgofaa", sum := "4092b1e24c87218b0583dc3484e61188b85a6aab9ca51a5b42cbd2cdf702bfea", func := "loop.example/custumal/laws.FnExactTableSame", spec := "fnExactTableSame", unfollowed := true, recurses := true, apart := false, narrowed := true }
def FnExactTableSameUptoSaid : Prop := fnExactTableSameUptoRow.holds Try.pinned (OpenSpec.upto fnExactTableSameSpec)

/-- 'laws.FnExactActOk', WHERE WHAT IT READS IS OF BULK AT MOST 1048576: true; the input reads as it did. -/
def fnExactActOkUptoRow : OpenClaim := { program := "ytjimcjldpdgofaa", sum := "4092b1e24c87218b0583dc3484e61188b85a6aab9ca51a5b42cbd2cdf702bfea", func := "loop.example/custumal/laws.FnExactActOk", spec := "fnExactActOk", unfollowed := true, recurses := true, apart := false, narrowed := true }
def FnExactActOkUptoSaid : Prop := fnExactActOkUptoRow.holds Try.pinned (OpenSpec.upto fnExactActOkSpec)

/-- 'laws.FnExactTableNew', WHERE WHAT IT READS IS OF BULK AT MOST 1048576: true; the input reads as it did. -/
def fnExactTableNewUptoRow : OpenClaim := { program := "ytjimcjldpdgofaa", sum := "4092b1e24c87218b0583dc3484e61188b85a6aab9ca51a5b42cbd2cdf702bfea", func := "loop.example/custumal/laws.FnExactTableNew", spec := "fnExactTableNew", unfollowed := true, recurses := true, apart := false, narrowed := true }
def FnExactTableNewUptoSaid : Prop := fnExactTableNewUptoRow.holds Try.pinned (OpenSpec.upto fnExactTableNewSpec)

/-- 'laws.FnExactBaseSame', WHERE WHAT IT READS IS OF BULK AT MOST 1048576: true; the input reads as it did. -/
def fnExactBaseSameUptoRow : OpenClaim := { program := "ytjimcjldpdgofaa", sum := "4092b1e24c87218b0583dc3484e61188b85a6aab9ca51a5b42cbd2cdf702bfea", func := "loop.example/custumal/laws.FnExactBaseSame", spec := "fnExactBaseSame", unfollowed := true, recurses := true, apart := false, narrowed := true }
def FnExactBaseSameUptoSaid : Prop := fnExactBaseSameUptoRow.holds Try.pinned (OpenSpec.upto fnExactBaseSameSpec)

end Rows
end Go.Proofs.Ytjimcjldpdgofaa
