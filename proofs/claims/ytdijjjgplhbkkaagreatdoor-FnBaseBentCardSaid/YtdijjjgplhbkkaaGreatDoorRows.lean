/-
  NARROWER THAN 'FOR EVERY INPUT', by the rows' own cells (each row's printed sentence says how): FnTableOnce: laid · FnTableFind: laid · FnTableBent: laid · FnExactBaseOk: laid · FnExactBaseDoomed: laid · FnBaseDoomed: laid · FnBaseBent: laid · FnBaseDoomedOf: laid · FnBaseLess: laid.
  DERIVED. THE GIVEN ROWS OF THIS SEAT. 9 by the template 'for every input the law returns true; each argument reads behind the call as it read before'; 0 by the template 'total and deterministic' (their statements: YtdijjjgplhbkkaaGreatDoorTotals.lean).
  GIVEN WITH THE SEED: the statements are not yours to turn. If you find one false, say at which input.
  Laid BY PROGRAM, IN A SANDBOX (cutbox-rows.mjs): the forced cells as the released guide's own fill.sh prints them over the translation ca0a35214f1567fe… (all of the seat's roots in one cut). By AI agents, Wed Nov 11 2026. No macro, syntax, notation, axiom, sorry.
-/
import Derived.Test.YtdijjjgplhbkkaaGreatDoorChecked
import GoSem.Claim
import GoSem.ClaimJoined
import GoSem.ClaimMapViews
import Derived.JoinedTies
import Derived.KernelRfl
namespace Go.Proofs.YtdijjjgplhbkkaaGreatDoor
/- THE CELL 'sum', in the pinned program and in every row, IS THE sha256 OF THE DUMP (.gsa) THAT YtdijjjgplhbkkaaGreatDoorProg.lean LOADS. Nothing in Lean hashes anything: it is a label: what it is worth is what the hold of that sum in a sandbox is worth. -/
noncomputable def Tryz.pinned : Pinned := { name := "ytdijjjgplhbkkaagreatdoor", sum := "ca0a35214f1567fe5a71b48ae126e7f18ba932ca6d0a2f3bfd9418b527cd0bda", checked := Tryz.checked }
namespace Rows
def none {H : Type} : Left H := { results := [], args := [] }

/- WHAT THE LISTED PACKAGE-LEVEL VARIABLES READ AS WHEN THE CALL BEGINS. Each datum BY PROGRAM (the guide's laid-datum.mjs) off the statement by which the dump's own 'gosem.cut.vars' lays the variable. In a bare row this is a premise. The card (YtdijjjgplhbkkaaGreatDoorCards.lean) ties it to the program's text. -/
def laid_math_bits_deBruijn32tab {H : Type} : DataW H := .agg [.lit (.int .u8 0), .lit (.int .u8 1), .lit (.int .u8 28), .lit (.int .u8 2), .lit (.int .u8 29), .lit (.int .u8 14), .lit (.int .u8 24), .lit (.int .u8 3), .lit (.int .u8 30), .lit (.int .u8 22), .lit (.int .u8 20), .lit (.int .u8 15), .lit (.int .u8 25), .lit (.int .u8 17), .lit (.int .u8 4), .lit (.int .u8 8), .lit (.int .u8 31), .lit (.int .u8 27), .lit (.int .u8 13), .lit (.int .u8 23), .lit (.int .u8 21), .lit (.int .u8 19), .lit (.int .u8 16), .lit (.int .u8 7), .lit (.int .u8 26), .lit (.int .u8 12), .lit (.int .u8 18), .lit (.int .u8 6), .lit (.int .u8 11), .lit (.int .u8 5), .lit (.int .u8 10), .lit (.int .u8 9)]
def laid_math_bits_deBruijn64tab {H : Type} : DataW H := .agg [.lit (.int .u8 0), .lit (.int .u8 1), .lit (.int .u8 56), .lit (.int .u8 2), .lit (.int .u8 57), .lit (.int .u8 49), .lit (.int .u8 28), .lit (.int .u8 3), .lit (.int .u8 61), .lit (.int .u8 58), .lit (.int .u8 42), .lit (.int .u8 50), .lit (.int .u8 38), .lit (.int .u8 29), .lit (.int .u8 17), .lit (.int .u8 4), .lit (.int .u8 62), .lit (.int .u8 47), .lit (.int .u8 59), .lit (.int .u8 36), .lit (.int .u8 45), .lit (.int .u8 43), .lit (.int .u8 51), .lit (.int .u8 22), .lit (.int .u8 53), .lit (.int .u8 39), .lit (.int .u8 33), .lit (.int .u8 30), .lit (.int .u8 24), .lit (.int .u8 18), .lit (.int .u8 12), .lit (.int .u8 5), .lit (.int .u8 63), .lit (.int .u8 55), .lit (.int .u8 48), .lit (.int .u8 27), .lit (.int .u8 60), .lit (.int .u8 41), .lit (.int .u8 37), .lit (.int .u8 16), .lit (.int .u8 46), .lit (.int .u8 35), .lit (.int .u8 44), .lit (.int .u8 21), .lit (.int .u8 52), .lit (.int .u8 32), .lit (.int .u8 23), .lit (.int .u8 11), .lit (.int .u8 54), .lit (.int .u8 26), .lit (.int .u8 40), .lit (.int .u8 15), .lit (.int .u8 34), .lit (.int .u8 20), .lit (.int .u8 31), .lit (.int .u8 10), .lit (.int .u8 25), .lit (.int .u8 14), .lit (.int .u8 19), .lit (.int .u8 9), .lit (.int .u8 13), .lit (.int .u8 8), .lit (.int .u8 7), .lit (.int .u8 6)]
def laid_internal_strconv_uint64pow10 {H : Type} : DataW H := .agg [.lit (.int .u64 1), .lit (.int .u64 10), .lit (.int .u64 100), .lit (.int .u64 1000), .lit (.int .u64 10000), .lit (.int .u64 100000), .lit (.int .u64 1000000), .lit (.int .u64 10000000), .lit (.int .u64 100000000), .lit (.int .u64 1000000000), .lit (.int .u64 10000000000), .lit (.int .u64 100000000000), .lit (.int .u64 1000000000000), .lit (.int .u64 10000000000000), .lit (.int .u64 100000000000000), .lit (.int .u64 1000000000000000), .lit (.int .u64 10000000000000000), .lit (.int .u64 100000000000000000), .lit (.int .u64 1000000000000000000), .lit (.int .u64 10000000000000000000)]
def laid_strconv_ErrRange {H : Type} : DataW H := .iface "*errors.errorString" (.ptr (.agg [.lit (.string [118, 97, 108, 117, 101, 32, 111, 117, 116, 32, 111, 102, 32, 114, 97, 110, 103, 101])]))
def laid_strconv_ErrSyntax {H : Type} : DataW H := .iface "*errors.errorString" (.ptr (.agg [.lit (.string [105, 110, 118, 97, 108, 105, 100, 32, 115, 121, 110, 116, 97, 120])]))

/-- 'laws.FnTableOnce': WHATEVER THE INPUT: true; the input reads as it did. -/
def fnTableOnceSpec : ChangeSpec := { name := "fnTableOnce", fn := fun _ => fun
  | [d] => { results := [.lit (.bool true)], args := [d] }
  | _ => none }
def fnTableOnceRow : OpenClaim := { program := "ytdijjjgplhbkkaagreatdoor", sum := "ca0a35214f1567fe5a71b48ae126e7f18ba932ca6d0a2f3bfd9418b527cd0bda", func := "loop.example/custumal/laws.FnTableOnce", spec := "fnTableOnce", unfollowed := true, recurses := true, named := ["internal/strconv.uint64pow10", "math/bits.deBruijn32tab", "math/bits.deBruijn64tab", "strconv.ErrSyntax", "strconv.ErrRange"], plainKeys := false, apart := false, laid := [("math/bits.deBruijn32tab", laid_math_bits_deBruijn32tab), ("math/bits.deBruijn64tab", laid_math_bits_deBruijn64tab), ("internal/strconv.uint64pow10", laid_internal_strconv_uint64pow10), ("strconv.ErrRange", laid_strconv_ErrRange), ("strconv.ErrSyntax", laid_strconv_ErrSyntax)] }
def FnTableOnceSaid : Prop := fnTableOnceRow.holds Tryz.pinned (OpenSpec.ofChange fnTableOnceSpec)

/-- ITS FALSE NEIGHBOUR: 'it returns false'. Refute it at one input. -/
def fnTableOnceWrong : ChangeSpec := { name := "fnTableOnce", fn := fun _ => fun
  | [d] => { results := [.lit (.bool false)], args := [d] }
  | _ => none }
def FnTableOnceWrongFalsely : Prop := fnTableOnceRow.holds Tryz.pinned (OpenSpec.ofChange fnTableOnceWrong)

/-- 'laws.FnTableFind': WHATEVER THE INPUT: true; the input reads as it did. -/
def fnTableFindSpec : ChangeSpec := { name := "fnTableFind", fn := fun _ => fun
  | [d] => { results := [.lit (.bool true)], args := [d] }
  | _ => none }
def fnTableFindRow : OpenClaim := { program := "ytdijjjgplhbkkaagreatdoor", sum := "ca0a35214f1567fe5a71b48ae126e7f18ba932ca6d0a2f3bfd9418b527cd0bda", func := "loop.example/custumal/laws.FnTableFind", spec := "fnTableFind", unfollowed := true, recurses := true, named := ["internal/strconv.uint64pow10", "math/bits.deBruijn32tab", "math/bits.deBruijn64tab", "strconv.ErrSyntax", "strconv.ErrRange"], plainKeys := false, apart := false, laid := [("math/bits.deBruijn32tab", laid_math_bits_deBruijn32tab), ("math/bits.deBruijn64tab", laid_math_bits_deBruijn64tab), ("internal/strconv.uint64pow10", laid_internal_strconv_uint64pow10), ("strconv.ErrRange", laid_strconv_ErrRange), ("strconv.ErrSyntax", laid_strconv_ErrSyntax)] }
def FnTableFindSaid : Prop := fnTableFindRow.holds Tryz.pinned (OpenSpec.ofChange fnTableFindSpec)

/-- ITS FALSE NEIGHBOUR: 'it returns false'. Refute it at one input. -/
def fnTableFindWrong : ChangeSpec := { name := "fnTableFind", fn := fun _ => fun
  | [d] => { results := [.lit (.bool false)], args := [d] }
  | _ => none }
def FnTableFindWrongFalsely : Prop := fnTableFindRow.holds Tryz.pinned (OpenSpec.ofChange fnTableFindWrong)

/-- 'laws.FnTableBent': WHATEVER THE INPUT: true; the input reads as it did. -/
def fnTableBentSpec : ChangeSpec := { name := "fnTableBent", fn := fun _ => fun
  | [d] => { results := [.lit (.bool true)], args := [d] }
  | _ => none }
def fnTableBentRow : OpenClaim := { program := "ytdijjjgplhbkkaagreatdoor", sum := "ca0a35214f1567fe5a71b48ae126e7f18ba932ca6d0a2f3bfd9418b527cd0bda", func := "loop.example/custumal/laws.FnTableBent", spec := "fnTableBent", unfollowed := true, recurses := true, named := ["internal/strconv.uint64pow10", "math/bits.deBruijn32tab", "math/bits.deBruijn64tab", "strconv.ErrSyntax", "strconv.ErrRange"], plainKeys := false, apart := false, laid := [("math/bits.deBruijn32tab", laid_math_bits_deBruijn32tab), ("math/bits.deBruijn64tab", laid_math_bits_deBruijn64tab), ("internal/strconv.uint64pow10", laid_internal_strconv_uint64pow10), ("strconv.ErrRange", laid_strconv_ErrRange), ("strconv.ErrSyntax", laid_strconv_ErrSyntax)] }
def FnTableBentSaid : Prop := fnTableBentRow.holds Tryz.pinned (OpenSpec.ofChange fnTableBentSpec)

/-- ITS FALSE NEIGHBOUR: 'it returns false'. Refute it at one input. -/
def fnTableBentWrong : ChangeSpec := { name := "fnTableBent", fn := fun _ => fun
  | [d] => { results := [.lit (.bool false)], args := [d] }
  | _ => none }
def FnTableBentWrongFalsely : Prop := fnTableBentRow.holds Tryz.pinned (OpenSpec.ofChange fnTableBentWrong)

/-- 'laws.FnExactBaseOk': WHATEVER THE INPUT: true; the input reads as it did. -/
def fnExactBaseOkSpec : ChangeSpec := { name := "fnExactBaseOk", fn := fun _ => fun
  | [d] => { results := [.lit (.bool true)], args := [d] }
  | _ => none }
def fnExactBaseOkRow : OpenClaim := { program := "ytdijjjgplhbkkaagreatdoor", sum := "ca0a35214f1567fe5a71b48ae126e7f18ba932ca6d0a2f3bfd9418b527cd0bda", func := "loop.example/custumal/laws.FnExactBaseOk", spec := "fnExactBaseOk", unfollowed := true, recurses := true, named := ["internal/strconv.uint64pow10", "math/bits.deBruijn32tab", "math/bits.deBruijn64tab", "strconv.ErrSyntax", "strconv.ErrRange"], plainKeys := false, apart := false, laid := [("math/bits.deBruijn32tab", laid_math_bits_deBruijn32tab), ("math/bits.deBruijn64tab", laid_math_bits_deBruijn64tab), ("internal/strconv.uint64pow10", laid_internal_strconv_uint64pow10), ("strconv.ErrRange", laid_strconv_ErrRange), ("strconv.ErrSyntax", laid_strconv_ErrSyntax)] }
def FnExactBaseOkSaid : Prop := fnExactBaseOkRow.holds Tryz.pinned (OpenSpec.ofChange fnExactBaseOkSpec)

/-- ITS FALSE NEIGHBOUR: 'it returns false'. Refute it at one input. -/
def fnExactBaseOkWrong : ChangeSpec := { name := "fnExactBaseOk", fn := fun _ => fun
  | [d] => { results := [.lit (.bool false)], args := [d] }
  | _ => none }
def FnExactBaseOkWrongFalsely : Prop := fnExactBaseOkRow.holds Tryz.pinned (OpenSpec.ofChange fnExactBaseOkWrong)

/-- 'laws.FnExactBaseDoomed': WHATEVER THE INPUT: true; the input reads as it did. -/
def fnExactBaseDoomedSpec : ChangeSpec := { name := "fnExactBaseDoomed", fn := fun _ => fun
  | [d1, d2, d3] => { results := [.lit (.bool true)], args := [d1, d2, d3] }
  | _ => none }
def fnExactBaseDoomedRow : OpenClaim := { program := "ytdijjjgplhbkkaagreatdoor", sum := "ca0a35214f1567fe5a71b48ae126e7f18ba932ca6d0a2f3bfd9418b527cd0bda", func := "loop.example/custumal/laws.FnExactBaseDoomed", spec := "fnExactBaseDoomed", unfollowed := true, recurses := true, named := ["internal/strconv.uint64pow10", "math/bits.deBruijn32tab", "math/bits.deBruijn64tab", "strconv.ErrSyntax", "strconv.ErrRange"], plainKeys := false, apart := false, laid := [("math/bits.deBruijn32tab", laid_math_bits_deBruijn32tab), ("math/bits.deBruijn64tab", laid_math_bits_deBruijn64tab), ("internal/strconv.uint64pow10", laid_internal_strconv_uint64pow10), ("strconv.ErrRange", laid_strconv_ErrRange), ("strconv.ErrSyntax", laid_strconv_ErrSyntax)] }
def FnExactBaseDoomedSaid : Prop := fnExactBaseDoomedRow.holds Tryz.pinned (OpenSpec.ofChange fnExactBaseDoomedSpec)

/-- ITS FALSE NEIGHBOUR: 'it returns false'. Refute it at one input. -/
def fnExactBaseDoomedWrong : ChangeSpec := { name := "fnExactBaseDoomed", fn := fun _ => fun
  | [d1, d2, d3] => { results := [.lit (.bool false)], args := [d1, d2, d3] }
  | _ => none }
def FnExactBaseDoomedWrongFalsely : Prop := fnExactBaseDoomedRow.holds Tryz.pinned (OpenSpec.ofChange fnExactBaseDoomedWrong)

/-- 'laws.FnBaseDoomed': WHATEVER THE INPUT: true; the input reads as it did. -/
def fnBaseDoomedSpec : ChangeSpec := { name := "fnBaseDoomed", fn := fun _ => fun
  | [d] => { results := [.lit (.bool true)], args := [d] }
  | _ => none }
def fnBaseDoomedRow : OpenClaim := { program := "ytdijjjgplhbkkaagreatdoor", sum := "ca0a35214f1567fe5a71b48ae126e7f18ba932ca6d0a2f3bfd9418b527cd0bda", func := "loop.example/custumal/laws.FnBaseDoomed", spec := "fnBaseDoomed", unfollowed := true, recurses := true, named := ["internal/strconv.uint64pow10", "math/bits.deBruijn32tab", "math/bits.deBruijn64tab", "strconv.ErrSyntax", "strconv.ErrRange"], plainKeys := false, apart := false, laid := [("math/bits.deBruijn32tab", laid_math_bits_deBruijn32tab), ("math/bits.deBruijn64tab", laid_math_bits_deBruijn64tab), ("internal/strconv.uint64pow10", laid_internal_strconv_uint64pow10), ("strconv.ErrRange", laid_strconv_ErrRange), ("strconv.ErrSyntax", laid_strconv_ErrSyntax)] }
def FnBaseDoomedSaid : Prop := fnBaseDoomedRow.holds Tryz.pinned (OpenSpec.ofChange fnBaseDoomedSpec)

/-- ITS FALSE NEIGHBOUR: 'it returns false'. Refute it at one input. -/
def fnBaseDoomedWrong : ChangeSpec := { name := "fnBaseDoomed", fn := fun _ => fun
  | [d] => { results := [.lit (.bool false)], args := [d] }
  | _ => none }
def FnBaseDoomedWrongFalsely : Prop := fnBaseDoomedRow.holds Tryz.pinned (OpenSpec.ofChange fnBaseDoomedWrong)

/-- 'laws.FnBaseBent': WHATEVER THE INPUT: true; the input reads as it did. -/
def fnBaseBentSpec : ChangeSpec := { name := "fnBaseBent", fn := fun _ => fun
  | [d] => { results := [.lit (.bool true)], args := [d] }
  | _ => none }
def fnBaseBentRow : OpenClaim := { program := "ytdijjjgplhbkkaagreatdoor", sum := "ca0a35214f1567fe5a71b48ae126e7f18ba932ca6d0a2f3bfd9418b527cd0bda", func := "loop.example/custumal/laws.FnBaseBent", spec := "fnBaseBent", unfollowed := true, recurses := true, named := ["internal/strconv.uint64pow10", "math/bits.deBruijn32tab", "math/bits.deBruijn64tab", "strconv.ErrSyntax", "strconv.ErrRange"], plainKeys := false, apart := false, laid := [("math/bits.deBruijn32tab", laid_math_bits_deBruijn32tab), ("math/bits.deBruijn64tab", laid_math_bits_deBruijn64tab), ("internal/strconv.uint64pow10", laid_internal_strconv_uint64pow10), ("strconv.ErrRange", laid_strconv_ErrRange), ("strconv.ErrSyntax", laid_strconv_ErrSyntax)] }
def FnBaseBentSaid : Prop := fnBaseBentRow.holds Tryz.pinned (OpenSpec.ofChange fnBaseBentSpec)

/-- ITS FALSE NEIGHBOUR: 'it returns false'. Refute it at one input. -/
def fnBaseBentWrong : ChangeSpec := { name := "fnBaseBent", fn := fun _ => fun
  | [d] => { results := [.lit (.bool false)], args := [d] }
  | _ => none }
def FnBaseBentWrongFalsely : Prop := fnBaseBentRow.holds Tryz.pinned (OpenSpec.ofChange fnBaseBentWrong)

/-- 'laws.FnBaseDoomedOf': WHATEVER THE INPUT: true; the input reads as it did. -/
def fnBaseDoomedOfSpec : ChangeSpec := { name := "fnBaseDoomedOf", fn := fun _ => fun
  | [d] => { results := [.lit (.bool true)], args := [d] }
  | _ => none }
def fnBaseDoomedOfRow : OpenClaim := { program := "ytdijjjgplhbkkaagreatdoor", sum := "ca0a35214f1567fe5a71b48ae126e7f18ba932ca6d0a2f3bfd9418b527cd0bda", func := "loop.example/custumal/laws.FnBaseDoomedOf", spec := "fnBaseDoomedOf", unfollowed := true, recurses := true, named := ["internal/strconv.uint64pow10", "math/bits.deBruijn32tab", "math/bits.deBruijn64tab", "strconv.ErrSyntax", "strconv.ErrRange"], plainKeys := false, apart := false, laid := [("math/bits.deBruijn32tab", laid_math_bits_deBruijn32tab), ("math/bits.deBruijn64tab", laid_math_bits_deBruijn64tab), ("internal/strconv.uint64pow10", laid_internal_strconv_uint64pow10), ("strconv.ErrRange", laid_strconv_ErrRange), ("strconv.ErrSyntax", laid_strconv_ErrSyntax)] }
def FnBaseDoomedOfSaid : Prop := fnBaseDoomedOfRow.holds Tryz.pinned (OpenSpec.ofChange fnBaseDoomedOfSpec)

/-- ITS FALSE NEIGHBOUR: 'it returns false'. Refute it at one input. -/
def fnBaseDoomedOfWrong : ChangeSpec := { name := "fnBaseDoomedOf", fn := fun _ => fun
  | [d] => { results := [.lit (.bool false)], args := [d] }
  | _ => none }
def FnBaseDoomedOfWrongFalsely : Prop := fnBaseDoomedOfRow.holds Tryz.pinned (OpenSpec.ofChange fnBaseDoomedOfWrong)

/-- 'laws.FnBaseLess': WHATEVER THE INPUT: true; the input reads as it did. -/
def fnBaseLessSpec : ChangeSpec := { name := "fnBaseLess", fn := fun _ => fun
  | [d] => { results := [.lit (.bool true)], args := [d] }
  | _ => none }
def fnBaseLessRow : OpenClaim := { program := "ytdijjjgplhbkkaagreatdoor", sum := "ca0a35214f1567fe5a71b48ae126e7f18ba932ca6d0a2f3bfd9418b527cd0bda", func := "loop.example/custumal/laws.FnBaseLess", spec := "fnBaseLess", unfollowed := true, recurses := true, named := ["internal/strconv.uint64pow10", "math/bits.deBruijn32tab", "math/bits.deBruijn64tab", "strconv.ErrSyntax", "strconv.ErrRange"], plainKeys := false, apart := false, laid := [("math/bits.deBruijn32tab", laid_math_bits_deBruijn32tab), ("math/bits.deBruijn64tab", laid_math_bits_deBruijn64tab), ("internal/strconv.uint64pow10", laid_internal_strconv_uint64pow10), ("strconv.ErrRange", laid_strconv_ErrRange), ("strconv.ErrSyntax", laid_strconv_ErrSyntax)] }
def FnBaseLessSaid : Prop := fnBaseLessRow.holds Tryz.pinned (OpenSpec.ofChange fnBaseLessSpec)

/-- ITS FALSE NEIGHBOUR: 'it returns false'. Refute it at one input. -/
def fnBaseLessWrong : ChangeSpec := { name := "fnBaseLess", fn := fun _ => fun
  | [d] => { results := [.lit (.bool false)], args := [d] }
  | _ => none }
def FnBaseLessWrongFalsely : Prop := fnBaseLessRow.holds Tryz.pinned (OpenSpec.ofChange fnBaseLessWrong)

/- THE SECOND FORM. 'bulk': how many values and letters a reading holds, each counted each time it is reached (what is shared counts as often as it is met; a slice's spare places count too). A statement '..UptoSaid' is the law's where the arguments, and the package variables that the reading takes, are together of bulk at most 1048576: NARROWER than '..Said'. Prove '..Said' where nothing that the law and all that it calls make is longer than what came in: it says more and counts as full. Else prove '..UptoSaid'. A law counts once. -/
mutual
def uptoBulk {H : Type} : DataW H → Nat
  | .lit (.string bytes) => bytes.length + 1
  | .lit _ => 1
  | .nil => 1
  | .ptr d => uptoBulk d + 1
  | .slice elems spare => uptoBulkAll elems + uptoBulkAll spare + 1
  | .agg parts => uptoBulkAll parts + 1
  | .iface _ d => uptoBulk d + 1
  | .map entries => uptoBulkEntries entries + 1
  | .held _ => 1
def uptoBulkAll {H : Type} : List (DataW H) → Nat
  | [] => 0
  | d :: r => uptoBulk d + uptoBulkAll r
def uptoBulkEntries {H : Type} : List (Lit × DataW H) → Nat
  | [] => 0
  | x :: r => uptoBulkEntry x + uptoBulkEntries r
def uptoBulkEntry {H : Type} : Lit × DataW H → Nat
  | (.string bytes, d) => bytes.length + uptoBulk d + 1
  | (_, d) => uptoBulk d + 1
 end
def uptoSmall : (H : Type) → List (DataW H) → Bool := fun _ ds => decide (uptoBulkAll ds ≤ 1048576)
def OpenSpec.upto (s : _root_.Go.ChangeSpec) : _root_.Go.OpenSpec := { _root_.Go.OpenSpec.ofChange s with cond := some uptoSmall }

/-- 'laws.FnTableOnce', WHERE WHAT IT READS IS OF BULK AT MOST 1048576: true; the input reads as it did. -/
def fnTableOnceUptoRow : OpenClaim := { program := "ytdijjjgplhbkkaagreatdoor", sum := "ca0a35214f1567fe5a71b48ae126e7f18ba932ca6d0a2f3bfd9418b527cd0bda", func := "loop.example/custumal/laws.FnTableOnce", spec := "fnTableOnce", unfollowed := true, recurses := true, named := ["internal/strconv.uint64pow10", "math/bits.deBruijn32tab", "math/bits.deBruijn64tab", "strconv.ErrSyntax", "strconv.ErrRange"], plainKeys := false, apart := false, laid := [("math/bits.deBruijn32tab", laid_math_bits_deBruijn32tab), ("math/bits.deBruijn64tab", laid_math_bits_deBruijn64tab), ("internal/strconv.uint64pow10", laid_internal_strconv_uint64pow10), ("strconv.ErrRange", laid_strconv_ErrRange), ("strconv.ErrSyntax", laid_strconv_ErrSyntax)], narrowed := true }
def FnTableOnceUptoSaid : Prop := fnTableOnceUptoRow.holds Tryz.pinned (OpenSpec.upto fnTableOnceSpec)

/-- 'laws.FnTableFind', WHERE WHAT IT READS IS OF BULK AT MOST 1048576: true; the input reads as it did. -/
def fnTableFindUptoRow : OpenClaim := { program := "ytdijjjgplhbkkaagreatdoor", sum := "ca0a35214f1567fe5a71b48ae126e7f18ba932ca6d0a2f3bfd9418b527cd0bda", func := "loop.example/custumal/laws.FnTableFind", spec := "fnTableFind", unfollowed := true, recurses := true, named := ["internal/strconv.uint64pow10", "math/bits.deBruijn32tab", "math/bits.deBruijn64tab", "strconv.ErrSyntax", "strconv.ErrRange"], plainKeys := false, apart := false, laid := [("math/bits.deBruijn32tab", laid_math_bits_deBruijn32tab), ("math/bits.deBruijn64tab", laid_math_bits_deBruijn64tab), ("internal/strconv.uint64pow10", laid_internal_strconv_uint64pow10), ("strconv.ErrRange", laid_strconv_ErrRange), ("strconv.ErrSyntax", laid_strconv_ErrSyntax)], narrowed := true }
def FnTableFindUptoSaid : Prop := fnTableFindUptoRow.holds Tryz.pinned (OpenSpec.upto fnTableFindSpec)

/-- 'laws.FnTableBent', WHERE WHAT IT READS IS OF BULK AT MOST 1048576: true; the input reads as it did. -/
def fnTableBentUptoRow : OpenClaim := { program := "ytdijjjgplhbkkaagreatdoor", sum := "ca0a35214f1567fe5a71b48ae126e7f18ba932ca6d0a2f3bfd9418b527cd0bda", func := "loop.example/custumal/laws.FnTableBent", spec := "fnTableBent", unfollowed := true, recurses := true, named := ["internal/strconv.uint64pow10", "math/bits.deBruijn32tab", "math/bits.deBruijn64tab", "strconv.ErrSyntax", "strconv.ErrRange"], plainKeys := false, apart := false, laid := [("math/bits.deBruijn32tab", laid_math_bits_deBruijn32tab), ("math/bits.deBruijn64tab", laid_math_bits_deBruijn64tab), ("internal/strconv.uint64pow10", laid_internal_strconv_uint64pow10), ("strconv.ErrRange", laid_strconv_ErrRange), ("strconv.ErrSyntax", laid_strconv_ErrSyntax)], narrowed := true }
def FnTableBentUptoSaid : Prop := fnTableBentUptoRow.holds Tryz.pinned (OpenSpec.upto fnTableBentSpec)

/-- 'laws.FnExactBaseOk', WHERE WHAT IT READS IS OF BULK AT MOST 1048576: true; the input reads as it did. -/
def fnExactBaseOkUptoRow : OpenClaim := { program := "ytdijjjgplhbkkaagreatdoor", sum := "ca0a35214f1567fe5a71b48ae126e7f18ba932ca6d0a2f3bfd9418b527cd0bda", func := "loop.example/custumal/laws.FnExactBaseOk", spec := "fnExactBaseOk", unfollowed := true, recurses := true, named := ["internal/strconv.uint64pow10", "math/bits.deBruijn32tab", "math/bits.deBruijn64tab", "strconv.ErrSyntax", "strconv.ErrRange"], plainKeys := false, apart := false, laid := [("math/bits.deBruijn32tab", laid_math_bits_deBruijn32tab), ("math/bits.deBruijn64tab", laid_math_bits_deBruijn64tab), ("internal/strconv.uint64pow10", laid_internal_strconv_uint64pow10), ("strconv.ErrRange", laid_strconv_ErrRange), ("strconv.ErrSyntax", laid_strconv_ErrSyntax)], narrowed := true }
def FnExactBaseOkUptoSaid : Prop := fnExactBaseOkUptoRow.holds Tryz.pinned (OpenSpec.upto fnExactBaseOkSpec)

/-- 'laws.FnExactBaseDoomed', WHERE WHAT IT READS IS OF BULK AT MOST 1048576: true; the input reads as it did. -/
def fnExactBaseDoomedUptoRow : OpenClaim := { program := "ytdijjjgplhbkkaagreatdoor", sum := "ca0a35214f1567fe5a71b48ae126e7f18ba932ca6d0a2f3bfd9418b527cd0bda", func := "loop.example/custumal/laws.FnExactBaseDoomed", spec := "fnExactBaseDoomed", unfollowed := true, recurses := true, named := ["internal/strconv.uint64pow10", "math/bits.deBruijn32tab", "math/bits.deBruijn64tab", "strconv.ErrSyntax", "strconv.ErrRange"], plainKeys := false, apart := false, laid := [("math/bits.deBruijn32tab", laid_math_bits_deBruijn32tab), ("math/bits.deBruijn64tab", laid_math_bits_deBruijn64tab), ("internal/strconv.uint64pow10", laid_internal_strconv_uint64pow10), ("strconv.ErrRange", laid_strconv_ErrRange), ("strconv.ErrSyntax", laid_strconv_ErrSyntax)], narrowed := true }
def FnExactBaseDoomedUptoSaid : Prop := fnExactBaseDoomedUptoRow.holds Tryz.pinned (OpenSpec.upto fnExactBaseDoomedSpec)

/-- 'laws.FnBaseDoomed', WHERE WHAT IT READS IS OF BULK AT MOST 1048576: true; the input reads as it did. -/
def fnBaseDoomedUptoRow : OpenClaim := { program := "ytdijjjgplhbkkaagreatdoor", sum := "ca0a35214f1567fe5a71b48ae126e7f18ba932ca6d0a2f3bfd9418b527cd0bda", func := "loop.example/custumal/laws.FnBaseDoomed", spec := "fnBaseDoomed", unfollowed := true, recurses := true, named := ["internal/strconv.uint64pow10", "math/bits.deBruijn32tab", "math/bits.deBruijn64tab", "strconv.ErrSyntax", "strconv.ErrRange"], plainKeys := false, apart := false, laid := [("math/bits.deBruijn32tab", laid_math_bits_deBruijn32tab), ("math/bits.deBruijn64tab", laid_math_bits_deBruijn64tab), ("internal/strconv.uint64pow10", laid_internal_strconv_uint64pow10), ("strconv.ErrRange", laid_strconv_ErrRange), ("strconv.ErrSyntax", laid_strconv_ErrSyntax)], narrowed := true }
def FnBaseDoomedUptoSaid : Prop := fnBaseDoomedUptoRow.holds Tryz.pinned (OpenSpec.upto fnBaseDoomedSpec)

/-- 'laws.FnBaseBent', WHERE WHAT IT READS IS OF BULK AT MOST 1048576: true; the input reads as it did. -/
def fnBaseBentUptoRow : OpenClaim := { program := "ytdijjjgplhbkkaagreatdoor", sum := "ca0a35214f1567fe5a71b48ae126e7f18ba932ca6d0a2f3bfd9418b527cd0bda", func := "loop.example/custumal/laws.FnBaseBent", spec := "fnBaseBent", unfollowed := true, recurses := true, named := ["internal/strconv.uint64pow10", "math/bits.deBruijn32tab", "math/bits.deBruijn64tab", "strconv.ErrSyntax", "strconv.ErrRange"], plainKeys := false, apart := false, laid := [("math/bits.deBruijn32tab", laid_math_bits_deBruijn32tab), ("math/bits.deBruijn64tab", laid_math_bits_deBruijn64tab), ("internal/strconv.uint64pow10", laid_internal_strconv_uint64pow10), ("strconv.ErrRange", laid_strconv_ErrRange), ("strconv.ErrSyntax", laid_strconv_ErrSyntax)], narrowed := true }
def FnBaseBentUptoSaid : Prop := fnBaseBentUptoRow.holds Tryz.pinned (OpenSpec.upto fnBaseBentSpec)

/-- 'laws.FnBaseDoomedOf', WHERE WHAT IT READS IS OF BULK AT MOST 1048576: true; the input reads as it did. -/
def fnBaseDoomedOfUptoRow : OpenClaim := { program := "ytdijjjgplhbkkaagreatdoor", sum := "ca0a35214f1567fe5a71b48ae126e7f18ba932ca6d0a2f3bfd9418b527cd0bda", func := "loop.example/custumal/laws.FnBaseDoomedOf", spec := "fnBaseDoomedOf", unfollowed := true, recurses := true, named := ["internal/strconv.uint64pow10", "math/bits.deBruijn32tab", "math/bits.deBruijn64tab", "strconv.ErrSyntax", "strconv.ErrRange"], plainKeys := false, apart := false, laid := [("math/bits.deBruijn32tab", laid_math_bits_deBruijn32tab), ("math/bits.deBruijn64tab", laid_math_bits_deBruijn64tab), ("internal/strconv.uint64pow10", laid_internal_strconv_uint64pow10), ("strconv.ErrRange", laid_strconv_ErrRange), ("strconv.ErrSyntax", laid_strconv_ErrSyntax)], narrowed := true }
def FnBaseDoomedOfUptoSaid : Prop := fnBaseDoomedOfUptoRow.holds Tryz.pinned (OpenSpec.upto fnBaseDoomedOfSpec)

/-- 'laws.FnBaseLess', WHERE WHAT IT READS IS OF BULK AT MOST 1048576: true; the input reads as it did. -/
def fnBaseLessUptoRow : OpenClaim := { program := "ytdijjjgplhbkkaagreatdoor", sum := "ca0a35214f1567fe5a71b48ae126e7f18ba932ca6d0a2f3bfd9418b527cd0bda", func := "loop.example/custumal/laws.FnBaseLess", spec := "fnBaseLess", unfollowed := true, recurses := true, named := ["internal/strconv.uint64pow10", "math/bits.deBruijn32tab", "math/bits.deBruijn64tab", "strconv.ErrSyntax", "strconv.ErrRange"], plainKeys := false, apart := false, laid := [("math/bits.deBruijn32tab", laid_math_bits_deBruijn32tab), ("math/bits.deBruijn64tab", laid_math_bits_deBruijn64tab), ("internal/strconv.uint64pow10", laid_internal_strconv_uint64pow10), ("strconv.ErrRange", laid_strconv_ErrRange), ("strconv.ErrSyntax", laid_strconv_ErrSyntax)], narrowed := true }
def FnBaseLessUptoSaid : Prop := fnBaseLessUptoRow.holds Tryz.pinned (OpenSpec.upto fnBaseLessSpec)

end Rows
end Go.Proofs.YtdijjjgplhbkkaaGreatDoor
