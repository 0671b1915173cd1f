/-
  NARROWER THAN 'FOR EVERY INPUT', by the rows' own cells (each row's printed sentence says how): FnShapeNeed: laid · FnShapeBack: laid · FnShapeTwice: laid · FnShape: laid · FnShapeAll: laid · FnExactShapeDo: laid · FnRowKeep: laid · FnShapeSwap: laid · FnRow: laid · FnExactRowDo: laid · FnRowAll: laid · FnExactShapeAll: laid.
  DERIVED. THE GIVEN ROWS OF THIS SEAT. 12 by the template 'for every input the law returns true; each argument reads behind the call as it read before'; 0 by the template 'total and deterministic' (their statements: YtegjajojckbkjaaDoorTotals.lean).
  GIVEN WITH THE SEED: the statements are not yours to turn. If you find one false, say at which input.
  Laid BY PROGRAM, IN A SANDBOX (cutbox-rows.mjs): the forced cells as the released guide's own fill.sh prints them over the translation a659d8471f1da1c8… (all of the seat's roots in one cut). By AI agents, Wed Nov 11 2026. No macro, syntax, notation, axiom, sorry.
-/
import Derived.Test.YtegjajojckbkjaaDoorChecked
import GoSem.Claim
import GoSem.ClaimJoined
import GoSem.ClaimMapViews
import Derived.JoinedTies
import Derived.KernelRfl
namespace Go.Proofs.YtegjajojckbkjaaDoor
/- THE CELL 'sum', in the pinned program and in every row, IS THE sha256 OF THE DUMP (.gsa) THAT YtegjajojckbkjaaDoorProg.lean LOADS. Nothing in Lean hashes anything: it is a label: what it is worth is what the hold of that sum in a sandbox is worth. -/
noncomputable def Tryd.pinned : Pinned := { name := "ytegjajojckbkjaadoor", sum := "a659d8471f1da1c82cdbfbe14574b6d84f68364e02d104b49bd3fdefa0226fc1", checked := Tryd.checked }
namespace Rows
def none {H : Type} : Left H := { results := [], args := [] }

/- WHAT THE LISTED PACKAGE-LEVEL VARIABLES READ AS WHEN THE CALL BEGINS. Each datum BY PROGRAM (the guide's laid-datum.mjs) off the statement by which the dump's own 'gosem.cut.vars' lays the variable. In a bare row this is a premise. The card (YtegjajojckbkjaaDoorCards.lean) ties it to the program's text. -/
def laid_math_bits_deBruijn32tab {H : Type} : DataW H := .agg [.lit (.int .u8 0), .lit (.int .u8 1), .lit (.int .u8 28), .lit (.int .u8 2), .lit (.int .u8 29), .lit (.int .u8 14), .lit (.int .u8 24), .lit (.int .u8 3), .lit (.int .u8 30), .lit (.int .u8 22), .lit (.int .u8 20), .lit (.int .u8 15), .lit (.int .u8 25), .lit (.int .u8 17), .lit (.int .u8 4), .lit (.int .u8 8), .lit (.int .u8 31), .lit (.int .u8 27), .lit (.int .u8 13), .lit (.int .u8 23), .lit (.int .u8 21), .lit (.int .u8 19), .lit (.int .u8 16), .lit (.int .u8 7), .lit (.int .u8 26), .lit (.int .u8 12), .lit (.int .u8 18), .lit (.int .u8 6), .lit (.int .u8 11), .lit (.int .u8 5), .lit (.int .u8 10), .lit (.int .u8 9)]
def laid_math_bits_deBruijn64tab {H : Type} : DataW H := .agg [.lit (.int .u8 0), .lit (.int .u8 1), .lit (.int .u8 56), .lit (.int .u8 2), .lit (.int .u8 57), .lit (.int .u8 49), .lit (.int .u8 28), .lit (.int .u8 3), .lit (.int .u8 61), .lit (.int .u8 58), .lit (.int .u8 42), .lit (.int .u8 50), .lit (.int .u8 38), .lit (.int .u8 29), .lit (.int .u8 17), .lit (.int .u8 4), .lit (.int .u8 62), .lit (.int .u8 47), .lit (.int .u8 59), .lit (.int .u8 36), .lit (.int .u8 45), .lit (.int .u8 43), .lit (.int .u8 51), .lit (.int .u8 22), .lit (.int .u8 53), .lit (.int .u8 39), .lit (.int .u8 33), .lit (.int .u8 30), .lit (.int .u8 24), .lit (.int .u8 18), .lit (.int .u8 12), .lit (.int .u8 5), .lit (.int .u8 63), .lit (.int .u8 55), .lit (.int .u8 48), .lit (.int .u8 27), .lit (.int .u8 60), .lit (.int .u8 41), .lit (.int .u8 37), .lit (.int .u8 16), .lit (.int .u8 46), .lit (.int .u8 35), .lit (.int .u8 44), .lit (.int .u8 21), .lit (.int .u8 52), .lit (.int .u8 32), .lit (.int .u8 23), .lit (.int .u8 11), .lit (.int .u8 54), .lit (.int .u8 26), .lit (.int .u8 40), .lit (.int .u8 15), .lit (.int .u8 34), .lit (.int .u8 20), .lit (.int .u8 31), .lit (.int .u8 10), .lit (.int .u8 25), .lit (.int .u8 14), .lit (.int .u8 19), .lit (.int .u8 9), .lit (.int .u8 13), .lit (.int .u8 8), .lit (.int .u8 7), .lit (.int .u8 6)]
def laid_internal_strconv_uint64pow10 {H : Type} : DataW H := .agg [.lit (.int .u64 1), .lit (.int .u64 10), .lit (.int .u64 100), .lit (.int .u64 1000), .lit (.int .u64 10000), .lit (.int .u64 100000), .lit (.int .u64 1000000), .lit (.int .u64 10000000), .lit (.int .u64 100000000), .lit (.int .u64 1000000000), .lit (.int .u64 10000000000), .lit (.int .u64 100000000000), .lit (.int .u64 1000000000000), .lit (.int .u64 10000000000000), .lit (.int .u64 100000000000000), .lit (.int .u64 1000000000000000), .lit (.int .u64 10000000000000000), .lit (.int .u64 100000000000000000), .lit (.int .u64 1000000000000000000), .lit (.int .u64 10000000000000000000)]
def laid_strconv_ErrRange {H : Type} : DataW H := .iface "*errors.errorString" (.ptr (.agg [.lit (.string [118, 97, 108, 117, 101, 32, 111, 117, 116, 32, 111, 102, 32, 114, 97, 110, 103, 101])]))
def laid_strconv_ErrSyntax {H : Type} : DataW H := .iface "*errors.errorString" (.ptr (.agg [.lit (.string [105, 110, 118, 97, 108, 105, 100, 32, 115, 121, 110, 116, 97, 120])]))

/-- 'laws.FnShapeNeed': WHATEVER THE INPUT: true; the input reads as it did. -/
def fnShapeNeedSpec : ChangeSpec := { name := "fnShapeNeed", fn := fun _ => fun
  | [d] => { results := [.lit (.bool true)], args := [d] }
  | _ => none }
def fnShapeNeedRow : OpenClaim := { program := "ytegjajojckbkjaadoor", sum := "a659d8471f1da1c82cdbfbe14574b6d84f68364e02d104b49bd3fdefa0226fc1", func := "loop.example/custumal/laws.FnShapeNeed", spec := "fnShapeNeed", unfollowed := true, recurses := true, named := ["internal/strconv.uint64pow10", "math/bits.deBruijn32tab", "math/bits.deBruijn64tab", "strconv.ErrSyntax", "strconv.ErrRange"], apart := false, laid := [("math/bits.deBruijn32tab", laid_math_bits_deBruijn32tab), ("math/bits.deBruijn64tab", laid_math_bits_deBruijn64tab), ("internal/strconv.uint64pow10", laid_internal_strconv_uint64pow10), ("strconv.ErrRange", laid_strconv_ErrRange), ("strconv.ErrSyntax", laid_strconv_ErrSyntax)] }
def FnShapeNeedSaid : Prop := fnShapeNeedRow.holds Tryd.pinned (OpenSpec.ofChange fnShapeNeedSpec)

/-- ITS FALSE NEIGHBOUR: 'it returns false'. Refute it at one input. -/
def fnShapeNeedWrong : ChangeSpec := { name := "fnShapeNeed", fn := fun _ => fun
  | [d] => { results := [.lit (.bool false)], args := [d] }
  | _ => none }
def FnShapeNeedWrongFalsely : Prop := fnShapeNeedRow.holds Tryd.pinned (OpenSpec.ofChange fnShapeNeedWrong)

/-- 'laws.FnShapeBack': WHATEVER THE INPUT: true; the input reads as it did. -/
def fnShapeBackSpec : ChangeSpec := { name := "fnShapeBack", fn := fun _ => fun
  | [d] => { results := [.lit (.bool true)], args := [d] }
  | _ => none }
def fnShapeBackRow : OpenClaim := { program := "ytegjajojckbkjaadoor", sum := "a659d8471f1da1c82cdbfbe14574b6d84f68364e02d104b49bd3fdefa0226fc1", func := "loop.example/custumal/laws.FnShapeBack", spec := "fnShapeBack", unfollowed := true, recurses := true, named := ["internal/strconv.uint64pow10", "math/bits.deBruijn32tab", "math/bits.deBruijn64tab", "strconv.ErrSyntax", "strconv.ErrRange"], apart := false, laid := [("math/bits.deBruijn32tab", laid_math_bits_deBruijn32tab), ("math/bits.deBruijn64tab", laid_math_bits_deBruijn64tab), ("internal/strconv.uint64pow10", laid_internal_strconv_uint64pow10), ("strconv.ErrRange", laid_strconv_ErrRange), ("strconv.ErrSyntax", laid_strconv_ErrSyntax)] }
def FnShapeBackSaid : Prop := fnShapeBackRow.holds Tryd.pinned (OpenSpec.ofChange fnShapeBackSpec)

/-- ITS FALSE NEIGHBOUR: 'it returns false'. Refute it at one input. -/
def fnShapeBackWrong : ChangeSpec := { name := "fnShapeBack", fn := fun _ => fun
  | [d] => { results := [.lit (.bool false)], args := [d] }
  | _ => none }
def FnShapeBackWrongFalsely : Prop := fnShapeBackRow.holds Tryd.pinned (OpenSpec.ofChange fnShapeBackWrong)

/-- 'laws.FnShapeTwice': WHATEVER THE INPUT: true; the input reads as it did. -/
def fnShapeTwiceSpec : ChangeSpec := { name := "fnShapeTwice", fn := fun _ => fun
  | [d] => { results := [.lit (.bool true)], args := [d] }
  | _ => none }
def fnShapeTwiceRow : OpenClaim := { program := "ytegjajojckbkjaadoor", sum := "a659d8471f1da1c82cdbfbe14574b6d84f68364e02d104b49bd3fdefa0226fc1", func := "loop.example/custumal/laws.FnShapeTwice", spec := "fnShapeTwice", unfollowed := true, recurses := true, named := ["internal/strconv.uint64pow10", "math/bits.deBruijn32tab", "math/bits.deBruijn64tab", "strconv.ErrSyntax", "strconv.ErrRange"], apart := false, laid := [("math/bits.deBruijn32tab", laid_math_bits_deBruijn32tab), ("math/bits.deBruijn64tab", laid_math_bits_deBruijn64tab), ("internal/strconv.uint64pow10", laid_internal_strconv_uint64pow10), ("strconv.ErrRange", laid_strconv_ErrRange), ("strconv.ErrSyntax", laid_strconv_ErrSyntax)] }
def FnShapeTwiceSaid : Prop := fnShapeTwiceRow.holds Tryd.pinned (OpenSpec.ofChange fnShapeTwiceSpec)

/-- ITS FALSE NEIGHBOUR: 'it returns false'. Refute it at one input. -/
def fnShapeTwiceWrong : ChangeSpec := { name := "fnShapeTwice", fn := fun _ => fun
  | [d] => { results := [.lit (.bool false)], args := [d] }
  | _ => none }
def FnShapeTwiceWrongFalsely : Prop := fnShapeTwiceRow.holds Tryd.pinned (OpenSpec.ofChange fnShapeTwiceWrong)

/-- 'laws.FnShape': WHATEVER THE INPUT: true; the input reads as it did. -/
def fnShapeSpec : ChangeSpec := { name := "fnShape", fn := fun _ => fun
  | [d] => { results := [.lit (.bool true)], args := [d] }
  | _ => none }
def fnShapeRow : OpenClaim := { program := "ytegjajojckbkjaadoor", sum := "a659d8471f1da1c82cdbfbe14574b6d84f68364e02d104b49bd3fdefa0226fc1", func := "loop.example/custumal/laws.FnShape", spec := "fnShape", unfollowed := true, recurses := true, named := ["internal/strconv.uint64pow10", "math/bits.deBruijn32tab", "math/bits.deBruijn64tab", "strconv.ErrSyntax", "strconv.ErrRange"], apart := false, laid := [("math/bits.deBruijn32tab", laid_math_bits_deBruijn32tab), ("math/bits.deBruijn64tab", laid_math_bits_deBruijn64tab), ("internal/strconv.uint64pow10", laid_internal_strconv_uint64pow10), ("strconv.ErrRange", laid_strconv_ErrRange), ("strconv.ErrSyntax", laid_strconv_ErrSyntax)] }
def FnShapeSaid : Prop := fnShapeRow.holds Tryd.pinned (OpenSpec.ofChange fnShapeSpec)

/-- ITS FALSE NEIGHBOUR: 'it returns false'. Refute it at one input. -/
def fnShapeWrong : ChangeSpec := { name := "fnShape", fn := fun _ => fun
  | [d] => { results := [.lit (.bool false)], args := [d] }
  | _ => none }
def FnShapeWrongFalsely : Prop := fnShapeRow.holds Tryd.pinned (OpenSpec.ofChange fnShapeWrong)

/-- 'laws.FnShapeAll': WHATEVER THE INPUT: true; the input reads as it did. -/
def fnShapeAllSpec : ChangeSpec := { name := "fnShapeAll", fn := fun _ => fun
  | [d1, d2] => { results := [.lit (.bool true)], args := [d1, d2] }
  | _ => none }
def fnShapeAllRow : OpenClaim := { program := "ytegjajojckbkjaadoor", sum := "a659d8471f1da1c82cdbfbe14574b6d84f68364e02d104b49bd3fdefa0226fc1", func := "loop.example/custumal/laws.FnShapeAll", spec := "fnShapeAll", unfollowed := true, recurses := true, named := ["internal/strconv.uint64pow10", "math/bits.deBruijn32tab", "math/bits.deBruijn64tab", "strconv.ErrSyntax", "strconv.ErrRange"], apart := false, laid := [("math/bits.deBruijn32tab", laid_math_bits_deBruijn32tab), ("math/bits.deBruijn64tab", laid_math_bits_deBruijn64tab), ("internal/strconv.uint64pow10", laid_internal_strconv_uint64pow10), ("strconv.ErrRange", laid_strconv_ErrRange), ("strconv.ErrSyntax", laid_strconv_ErrSyntax)] }
def FnShapeAllSaid : Prop := fnShapeAllRow.holds Tryd.pinned (OpenSpec.ofChange fnShapeAllSpec)

/-- ITS FALSE NEIGHBOUR: 'it returns false'. Refute it at one input. -/
def fnShapeAllWrong : ChangeSpec := { name := "fnShapeAll", fn := fun _ => fun
  | [d1, d2] => { results := [.lit (.bool false)], args := [d1, d2] }
  | _ => none }
def FnShapeAllWrongFalsely : Prop := fnShapeAllRow.holds Tryd.pinned (OpenSpec.ofChange fnShapeAllWrong)

/-- 'laws.FnExactShapeDo': WHATEVER THE INPUT: true; the input reads as it did. -/
def fnExactShapeDoSpec : ChangeSpec := { name := "fnExactShapeDo", fn := fun _ => fun
  | [d1, d2] => { results := [.lit (.bool true)], args := [d1, d2] }
  | _ => none }
def fnExactShapeDoRow : OpenClaim := { program := "ytegjajojckbkjaadoor", sum := "a659d8471f1da1c82cdbfbe14574b6d84f68364e02d104b49bd3fdefa0226fc1", func := "loop.example/custumal/laws.FnExactShapeDo", spec := "fnExactShapeDo", unfollowed := true, recurses := true, named := ["internal/strconv.uint64pow10", "math/bits.deBruijn32tab", "math/bits.deBruijn64tab", "strconv.ErrSyntax", "strconv.ErrRange"], apart := false, laid := [("math/bits.deBruijn32tab", laid_math_bits_deBruijn32tab), ("math/bits.deBruijn64tab", laid_math_bits_deBruijn64tab), ("internal/strconv.uint64pow10", laid_internal_strconv_uint64pow10), ("strconv.ErrRange", laid_strconv_ErrRange), ("strconv.ErrSyntax", laid_strconv_ErrSyntax)] }
def FnExactShapeDoSaid : Prop := fnExactShapeDoRow.holds Tryd.pinned (OpenSpec.ofChange fnExactShapeDoSpec)

/-- ITS FALSE NEIGHBOUR: 'it returns false'. Refute it at one input. -/
def fnExactShapeDoWrong : ChangeSpec := { name := "fnExactShapeDo", fn := fun _ => fun
  | [d1, d2] => { results := [.lit (.bool false)], args := [d1, d2] }
  | _ => none }
def FnExactShapeDoWrongFalsely : Prop := fnExactShapeDoRow.holds Tryd.pinned (OpenSpec.ofChange fnExactShapeDoWrong)

/-- 'laws.FnRowKeep': WHATEVER THE INPUT: true; the input reads as it did. -/
def fnRowKeepSpec : ChangeSpec := { name := "fnRowKeep", fn := fun _ => fun
  | [d] => { results := [.lit (.bool true)], args := [d] }
  | _ => none }
def fnRowKeepRow : OpenClaim := { program := "ytegjajojckbkjaadoor", sum := "a659d8471f1da1c82cdbfbe14574b6d84f68364e02d104b49bd3fdefa0226fc1", func := "loop.example/custumal/laws.FnRowKeep", spec := "fnRowKeep", unfollowed := true, recurses := true, named := ["internal/strconv.uint64pow10", "math/bits.deBruijn32tab", "math/bits.deBruijn64tab", "strconv.ErrSyntax", "strconv.ErrRange"], apart := false, laid := [("math/bits.deBruijn32tab", laid_math_bits_deBruijn32tab), ("math/bits.deBruijn64tab", laid_math_bits_deBruijn64tab), ("internal/strconv.uint64pow10", laid_internal_strconv_uint64pow10), ("strconv.ErrRange", laid_strconv_ErrRange), ("strconv.ErrSyntax", laid_strconv_ErrSyntax)] }
def FnRowKeepSaid : Prop := fnRowKeepRow.holds Tryd.pinned (OpenSpec.ofChange fnRowKeepSpec)

/-- ITS FALSE NEIGHBOUR: 'it returns false'. Refute it at one input. -/
def fnRowKeepWrong : ChangeSpec := { name := "fnRowKeep", fn := fun _ => fun
  | [d] => { results := [.lit (.bool false)], args := [d] }
  | _ => none }
def FnRowKeepWrongFalsely : Prop := fnRowKeepRow.holds Tryd.pinned (OpenSpec.ofChange fnRowKeepWrong)

/-- 'laws.FnShapeSwap': WHATEVER THE INPUT: true; the input reads as it did. -/
def fnShapeSwapSpec : ChangeSpec := { name := "fnShapeSwap", fn := fun _ => fun
  | [d1, d2] => { results := [.lit (.bool true)], args := [d1, d2] }
  | _ => none }
def fnShapeSwapRow : OpenClaim := { program := "ytegjajojckbkjaadoor", sum := "a659d8471f1da1c82cdbfbe14574b6d84f68364e02d104b49bd3fdefa0226fc1", func := "loop.example/custumal/laws.FnShapeSwap", spec := "fnShapeSwap", unfollowed := true, recurses := true, named := ["internal/strconv.uint64pow10", "math/bits.deBruijn32tab", "math/bits.deBruijn64tab", "strconv.ErrSyntax", "strconv.ErrRange"], apart := false, laid := [("math/bits.deBruijn32tab", laid_math_bits_deBruijn32tab), ("math/bits.deBruijn64tab", laid_math_bits_deBruijn64tab), ("internal/strconv.uint64pow10", laid_internal_strconv_uint64pow10), ("strconv.ErrRange", laid_strconv_ErrRange), ("strconv.ErrSyntax", laid_strconv_ErrSyntax)] }
def FnShapeSwapSaid : Prop := fnShapeSwapRow.holds Tryd.pinned (OpenSpec.ofChange fnShapeSwapSpec)

/-- ITS FALSE NEIGHBOUR: 'it returns false'. Refute it at one input. -/
def fnShapeSwapWrong : ChangeSpec := { name := "fnShapeSwap", fn := fun _ => fun
  | [d1, d2] => { results := [.lit (.bool false)], args := [d1, d2] }
  | _ => none }
def FnShapeSwapWrongFalsely : Prop := fnShapeSwapRow.holds Tryd.pinned (OpenSpec.ofChange fnShapeSwapWrong)

/-- 'laws.FnRow': WHATEVER THE INPUT: true; the input reads as it did. -/
def fnRowSpec : ChangeSpec := { name := "fnRow", fn := fun _ => fun
  | [d] => { results := [.lit (.bool true)], args := [d] }
  | _ => none }
def fnRowRow : OpenClaim := { program := "ytegjajojckbkjaadoor", sum := "a659d8471f1da1c82cdbfbe14574b6d84f68364e02d104b49bd3fdefa0226fc1", func := "loop.example/custumal/laws.FnRow", spec := "fnRow", unfollowed := true, recurses := true, named := ["internal/strconv.uint64pow10", "math/bits.deBruijn32tab", "math/bits.deBruijn64tab", "strconv.ErrSyntax", "strconv.ErrRange"], apart := false, laid := [("math/bits.deBruijn32tab", laid_math_bits_deBruijn32tab), ("math/bits.deBruijn64tab", laid_math_bits_deBruijn64tab), ("internal/strconv.uint64pow10", laid_internal_strconv_uint64pow10), ("strconv.ErrRange", laid_strconv_ErrRange), ("strconv.ErrSyntax", laid_strconv_ErrSyntax)] }
def FnRowSaid : Prop := fnRowRow.holds Tryd.pinned (OpenSpec.ofChange fnRowSpec)

/-- ITS FALSE NEIGHBOUR: 'it returns false'. Refute it at one input. -/
def fnRowWrong : ChangeSpec := { name := "fnRow", fn := fun _ => fun
  | [d] => { results := [.lit (.bool false)], args := [d] }
  | _ => none }
def FnRowWrongFalsely : Prop := fnRowRow.holds Tryd.pinned (OpenSpec.ofChange fnRowWrong)

/-- 'laws.FnExactRowDo': WHATEVER THE INPUT: true; the input reads as it did. -/
def fnExactRowDoSpec : ChangeSpec := { name := "fnExactRowDo", fn := fun _ => fun
  | [d1, d2, d3] => { results := [.lit (.bool true)], args := [d1, d2, d3] }
  | _ => none }
def fnExactRowDoRow : OpenClaim := { program := "ytegjajojckbkjaadoor", sum := "a659d8471f1da1c82cdbfbe14574b6d84f68364e02d104b49bd3fdefa0226fc1", func := "loop.example/custumal/laws.FnExactRowDo", spec := "fnExactRowDo", unfollowed := true, recurses := true, named := ["internal/strconv.uint64pow10", "math/bits.deBruijn32tab", "math/bits.deBruijn64tab", "strconv.ErrSyntax", "strconv.ErrRange"], apart := false, laid := [("math/bits.deBruijn32tab", laid_math_bits_deBruijn32tab), ("math/bits.deBruijn64tab", laid_math_bits_deBruijn64tab), ("internal/strconv.uint64pow10", laid_internal_strconv_uint64pow10), ("strconv.ErrRange", laid_strconv_ErrRange), ("strconv.ErrSyntax", laid_strconv_ErrSyntax)] }
def FnExactRowDoSaid : Prop := fnExactRowDoRow.holds Tryd.pinned (OpenSpec.ofChange fnExactRowDoSpec)

/-- ITS FALSE NEIGHBOUR: 'it returns false'. Refute it at one input. -/
def fnExactRowDoWrong : ChangeSpec := { name := "fnExactRowDo", fn := fun _ => fun
  | [d1, d2, d3] => { results := [.lit (.bool false)], args := [d1, d2, d3] }
  | _ => none }
def FnExactRowDoWrongFalsely : Prop := fnExactRowDoRow.holds Tryd.pinned (OpenSpec.ofChange fnExactRowDoWrong)

/-- 'laws.FnRowAll': WHATEVER THE INPUT: true; the input reads as it did. -/
def fnRowAllSpec : ChangeSpec := { name := "fnRowAll", fn := fun _ => fun
  | [d1, d2] => { results := [.lit (.bool true)], args := [d1, d2] }
  | _ => none }
def fnRowAllRow : OpenClaim := { program := "ytegjajojckbkjaadoor", sum := "a659d8471f1da1c82cdbfbe14574b6d84f68364e02d104b49bd3fdefa0226fc1", func := "loop.example/custumal/laws.FnRowAll", spec := "fnRowAll", unfollowed := true, recurses := true, named := ["internal/strconv.uint64pow10", "math/bits.deBruijn32tab", "math/bits.deBruijn64tab", "strconv.ErrSyntax", "strconv.ErrRange"], apart := false, laid := [("math/bits.deBruijn32tab", laid_math_bits_deBruijn32tab), ("math/bits.deBruijn64tab", laid_math_bits_deBruijn64tab), ("internal/strconv.uint64pow10", laid_internal_strconv_uint64pow10), ("strconv.ErrRange", laid_strconv_ErrRange), ("strconv.ErrSyntax", laid_strconv_ErrSyntax)] }
def FnRowAllSaid : Prop := fnRowAllRow.holds Tryd.pinned (OpenSpec.ofChange fnRowAllSpec)

/-- ITS FALSE NEIGHBOUR: 'it returns false'. Refute it at one input. -/
def fnRowAllWrong : ChangeSpec := { name := "fnRowAll", fn := fun _ => fun
  | [d1, d2] => { results := [.lit (.bool false)], args := [d1, d2] }
  | _ => none }
def FnRowAllWrongFalsely : Prop := fnRowAllRow.holds Tryd.pinned (OpenSpec.ofChange fnRowAllWrong)

/-- 'laws.FnExactShapeAll': WHATEVER THE INPUT: true; the input reads as it did. -/
def fnExactShapeAllSpec : ChangeSpec := { name := "fnExactShapeAll", fn := fun _ => fun
  | [d1, d2] => { results := [.lit (.bool true)], args := [d1, d2] }
  | _ => none }
def fnExactShapeAllRow : OpenClaim := { program := "ytegjajojckbkjaadoor", sum := "a659d8471f1da1c82cdbfbe14574b6d84f68364e02d104b49bd3fdefa0226fc1", func := "loop.example/custumal/laws.FnExactShapeAll", spec := "fnExactShapeAll", unfollowed := true, recurses := true, named := ["internal/strconv.uint64pow10", "math/bits.deBruijn32tab", "math/bits.deBruijn64tab", "strconv.ErrSyntax", "strconv.ErrRange"], apart := false, laid := [("math/bits.deBruijn32tab", laid_math_bits_deBruijn32tab), ("math/bits.deBruijn64tab", laid_math_bits_deBruijn64tab), ("internal/strconv.uint64pow10", laid_internal_strconv_uint64pow10), ("strconv.ErrRange", laid_strconv_ErrRange), ("strconv.ErrSyntax", laid_strconv_ErrSyntax)] }
def FnExactShapeAllSaid : Prop := fnExactShapeAllRow.holds Tryd.pinned (OpenSpec.ofChange fnExactShapeAllSpec)

/-- ITS FALSE NEIGHBOUR: 'it returns false'. Refute it at one input. -/
def fnExactShapeAllWrong : ChangeSpec := { name := "fnExactShapeAll", fn := fun _ => fun
  | [d1, d2] => { results := [.lit (.bool false)], args := [d1, d2] }
  | _ => none }
def FnExactShapeAllWrongFalsely : Prop := fnExactShapeAllRow.holds Tryd.pinned (OpenSpec.ofChange fnExactShapeAllWrong)

/- THE SECOND FORM. 'bulk': how many values and letters a reading holds, each counted each time it is reached (what is shared counts as often as it is met; a slice's spare places count too). A statement '..UptoSaid' is the law's where the arguments, and the package variables that the reading takes, are together of bulk at most 1048576: NARROWER than '..Said'. Prove '..Said' where nothing that the law and all that it calls make is longer than what came in: it says more and counts as full. Else prove '..UptoSaid'. A law counts once. -/
mutual
def uptoBulk {H : Type} : DataW H → Nat
  | .lit (.string bytes) => bytes.length + 1
  | .lit _ => 1
  | .nil => 1
  | .ptr d => uptoBulk d + 1
  | .slice elems spare => uptoBulkAll elems + uptoBulkAll spare + 1
  | .agg parts => uptoBulkAll parts + 1
  | .iface _ d => uptoBulk d + 1
  | .map entries => uptoBulkEntries entries + 1
  | .held _ => 1
def uptoBulkAll {H : Type} : List (DataW H) → Nat
  | [] => 0
  | d :: r => uptoBulk d + uptoBulkAll r
def uptoBulkEntries {H : Type} : List (Lit × DataW H) → Nat
  | [] => 0
  | x :: r => uptoBulkEntry x + uptoBulkEntries r
def uptoBulkEntry {H : Type} : Lit × DataW H → Nat
  | (.string bytes, d) => bytes.length + uptoBulk d + 1
  | (_, d) => uptoBulk d + 1
 end
def uptoSmall : (H : Type) → List (DataW H) → Bool := fun _ ds => decide (uptoBulkAll ds ≤ 1048576)
def OpenSpec.upto (s : _root_.Go.ChangeSpec) : _root_.Go.OpenSpec := { _root_.Go.OpenSpec.ofChange s with cond := some uptoSmall }

/-- 'laws.FnShapeNeed', WHERE WHAT IT READS IS OF BULK AT MOST 1048576: true; the input reads as it did. -/
def fnShapeNeedUptoRow : OpenClaim := { program := "ytegjajojckbkjaadoor", sum := "a659d8471f1da1c82cdbfbe14574b6d84f68364e02d104b49bd3fdefa0226fc1", func := "loop.example/custumal/laws.FnShapeNeed", spec := "fnShapeNeed", unfollowed := true, recurses := true, named := ["internal/strconv.uint64pow10", "math/bits.deBruijn32tab", "math/bits.deBruijn64tab", "strconv.ErrSyntax", "strconv.ErrRange"], apart := false, laid := [("math/bits.deBruijn32tab", laid_math_bits_deBruijn32tab), ("math/bits.deBruijn64tab", laid_math_bits_deBruijn64tab), ("internal/strconv.uint64pow10", laid_internal_strconv_uint64pow10), ("strconv.ErrRange", laid_strconv_ErrRange), ("strconv.ErrSyntax", laid_strconv_ErrSyntax)], narrowed := true }
def FnShapeNeedUptoSaid : Prop := fnShapeNeedUptoRow.holds Tryd.pinned (OpenSpec.upto fnShapeNeedSpec)

/-- 'laws.FnShapeBack', WHERE WHAT IT READS IS OF BULK AT MOST 1048576: true; the input reads as it did. -/
def fnShapeBackUptoRow : OpenClaim := { program := "ytegjajojckbkjaadoor", sum := "a659d8471f1da1c82cdbfbe14574b6d84f68364e02d104b49bd3fdefa0226fc1", func := "loop.example/custumal/laws.FnShapeBack", spec := "fnShapeBack", unfollowed := true, recurses := true, named := ["internal/strconv.uint64pow10", "math/bits.deBruijn32tab", "math/bits.deBruijn64tab", "strconv.ErrSyntax", "strconv.ErrRange"], apart := false, laid := [("math/bits.deBruijn32tab", laid_math_bits_deBruijn32tab), ("math/bits.deBruijn64tab", laid_math_bits_deBruijn64tab), ("internal/strconv.uint64pow10", laid_internal_strconv_uint64pow10), ("strconv.ErrRange", laid_strconv_ErrRange), ("strconv.ErrSyntax", laid_strconv_ErrSyntax)], narrowed := true }
def FnShapeBackUptoSaid : Prop := fnShapeBackUptoRow.holds Tryd.pinned (OpenSpec.upto fnShapeBackSpec)

/-- 'laws.FnShapeTwice', WHERE WHAT IT READS IS OF BULK AT MOST 1048576: true; the input reads as it did. -/
def fnShapeTwiceUptoRow : OpenClaim := { program := "ytegjajojckbkjaadoor", sum := "a659d8471f1da1c82cdbfbe14574b6d84f68364e02d104b49bd3fdefa0226fc1", func := "loop.example/custumal/laws.FnShapeTwice", spec := "fnShapeTwice", unfollowed := true, recurses := true, named := ["internal/strconv.uint64pow10", "math/bits.deBruijn32tab", "math/bits.deBruijn64tab", "strconv.ErrSyntax", "strconv.ErrRange"], apart := false, laid := [("math/bits.deBruijn32tab", laid_math_bits_deBruijn32tab), ("math/bits.deBruijn64tab", laid_math_bits_deBruijn64tab), ("internal/strconv.uint64pow10", laid_internal_strconv_uint64pow10), ("strconv.ErrRange", laid_strconv_ErrRange), ("strconv.ErrSyntax", laid_strconv_ErrSyntax)], narrowed := true }
def FnShapeTwiceUptoSaid : Prop := fnShapeTwiceUptoRow.holds Tryd.pinned (OpenSpec.upto fnShapeTwiceSpec)

/-- 'laws.FnShape', WHERE WHAT IT READS IS OF BULK AT MOST 1048576: true; the input reads as it did. -/
def fnShapeUptoRow : OpenClaim := { program := "ytegjajojckbkjaadoor", sum := "a659d8471f1da1c82cdbfbe14574b6d84f68364e02d104b49bd3fdefa0226fc1", func := "loop.example/custumal/laws.FnShape", spec := "fnShape", unfollowed := true, recurses := true, named := ["internal/strconv.uint64pow10", "math/bits.deBruijn32tab", "math/bits.deBruijn64tab", "strconv.ErrSyntax", "strconv.ErrRange"], apart := false, laid := [("math/bits.deBruijn32tab", laid_math_bits_deBruijn32tab), ("math/bits.deBruijn64tab", laid_math_bits_deBruijn64tab), ("internal/strconv.uint64pow10", laid_internal_strconv_uint64pow10), ("strconv.ErrRange", laid_strconv_ErrRange), ("strconv.ErrSyntax", laid_strconv_ErrSyntax)], narrowed := true }
def FnShapeUptoSaid : Prop := fnShapeUptoRow.holds Tryd.pinned (OpenSpec.upto fnShapeSpec)

/-- 'laws.FnShapeAll', WHERE WHAT IT READS IS OF BULK AT MOST 1048576: true; the input reads as it did. -/
def fnShapeAllUptoRow : OpenClaim := { program := "ytegjajojckbkjaadoor", sum := "a659d8471f1da1c82cdbfbe14574b6d84f68364e02d104b49bd3fdefa0226fc1", func := "loop.example/custumal/laws.FnShapeAll", spec := "fnShapeAll", unfollowed := true, recurses := true, named := ["internal/strconv.uint64pow10", "math/bits.deBruijn32tab", "math/bits.deBruijn64tab", "strconv.ErrSyntax", "strconv.ErrRange"], apart := false, laid := [("math/bits.deBruijn32tab", laid_math_bits_deBruijn32tab), ("math/bits.deBruijn64tab", laid_math_bits_deBruijn64tab), ("internal/strconv.uint64pow10", laid_internal_strconv_uint64pow10), ("strconv.ErrRange", laid_strconv_ErrRange), ("strconv.ErrSyntax", laid_strconv_ErrSyntax)], narrowed := true }
def FnShapeAllUptoSaid : Prop := fnShapeAllUptoRow.holds Tryd.pinned (OpenSpec.upto fnShapeAllSpec)

/-- 'laws.FnExactShapeDo', WHERE WHAT IT READS IS OF BULK AT MOST 1048576: true; the input reads as it did. -/
def fnExactShapeDoUptoRow : OpenClaim := { program := "ytegjajojckbkjaadoor", sum := "a659d8471f1da1c82cdbfbe14574b6d84f68364e02d104b49bd3fdefa0226fc1", func := "loop.example/custumal/laws.FnExactShapeDo", spec := "fnExactShapeDo", unfollowed := true, recurses := true, named := ["internal/strconv.uint64pow10", "math/bits.deBruijn32tab", "math/bits.deBruijn64tab", "strconv.ErrSyntax", "strconv.ErrRange"], apart := false, laid := [("math/bits.deBruijn32tab", laid_math_bits_deBruijn32tab), ("math/bits.deBruijn64tab", laid_math_bits_deBruijn64tab), ("internal/strconv.uint64pow10", laid_internal_strconv_uint64pow10), ("strconv.ErrRange", laid_strconv_ErrRange), ("strconv.ErrSyntax", laid_strconv_ErrSyntax)], narrowed := true }
def FnExactShapeDoUptoSaid : Prop := fnExactShapeDoUptoRow.holds Tryd.pinned (OpenSpec.upto fnExactShapeDoSpec)

/-- 'laws.FnRowKeep', WHERE WHAT IT READS IS OF BULK AT MOST 1048576: true; the input reads as it did. -/
def fnRowKeepUptoRow : OpenClaim := { program := "ytegjajojckbkjaadoor", sum := "a659d8471f1da1c82cdbfbe14574b6d84f68364e02d104b49bd3fdefa0226fc1", func := "loop.example/custumal/laws.FnRowKeep", spec := "fnRowKeep", unfollowed := true, recurses := true, named := ["internal/strconv.uint64pow10", "math/bits.deBruijn32tab", "math/bits.deBruijn64tab", "strconv.ErrSyntax", "strconv.ErrRange"], apart := false, laid := [("math/bits.deBruijn32tab", laid_math_bits_deBruijn32tab), ("math/bits.deBruijn64tab", laid_math_bits_deBruijn64tab), ("internal/strconv.uint64pow10", laid_internal_strconv_uint64pow10), ("strconv.ErrRange", laid_strconv_ErrRange), ("strconv.ErrSyntax", laid_strconv_ErrSyntax)], narrowed := true }
def FnRowKeepUptoSaid : Prop := fnRowKeepUptoRow.holds Tryd.pinned (OpenSpec.upto fnRowKeepSpec)

/-- 'laws.FnShapeSwap', WHERE WHAT IT READS IS OF BULK AT MOST 1048576: true; the input reads as it did. -/
def fnShapeSwapUptoRow : OpenClaim := { program := "ytegjajojckbkjaadoor", sum := "a659d8471f1da1c82cdbfbe14574b6d84f68364e02d104b49bd3fdefa0226fc1", func := "loop.example/custumal/laws.FnShapeSwap", spec := "fnShapeSwap", unfollowed := true, recurses := true, named := ["internal/strconv.uint64pow10", "math/bits.deBruijn32tab", "math/bits.deBruijn64tab", "strconv.ErrSyntax", "strconv.ErrRange"], apart := false, laid := [("math/bits.deBruijn32tab", laid_math_bits_deBruijn32tab), ("math/bits.deBruijn64tab", laid_math_bits_deBruijn64tab), ("internal/strconv.uint64pow10", laid_internal_strconv_uint64pow10), ("strconv.ErrRange", laid_strconv_ErrRange), ("strconv.ErrSyntax", laid_strconv_ErrSyntax)], narrowed := true }
def FnShapeSwapUptoSaid : Prop := fnShapeSwapUptoRow.holds Tryd.pinned (OpenSpec.upto fnShapeSwapSpec)

/-- 'laws.FnRow', WHERE WHAT IT READS IS OF BULK AT MOST 1048576: true; the input reads as it did. -/
def fnRowUptoRow : OpenClaim := { program := "ytegjajojckbkjaadoor", sum := "a659d8471f1da1c82cdbfbe14574b6d84f68364e02d104b49bd3fdefa0226fc1", func := "loop.example/custumal/laws.FnRow", spec := "fnRow", unfollowed := true, recurses := true, named := ["internal/strconv.uint64pow10", "math/bits.deBruijn32tab", "math/bits.deBruijn64tab", "strconv.ErrSyntax", "strconv.ErrRange"], apart := false, laid := [("math/bits.deBruijn32tab", laid_math_bits_deBruijn32tab), ("math/bits.deBruijn64tab", laid_math_bits_deBruijn64tab), ("internal/strconv.uint64pow10", laid_internal_strconv_uint64pow10), ("strconv.ErrRange", laid_strconv_ErrRange), ("strconv.ErrSyntax", laid_strconv_ErrSyntax)], narrowed := true }
def FnRowUptoSaid : Prop := fnRowUptoRow.holds Tryd.pinned (OpenSpec.upto fnRowSpec)

/-- 'laws.FnExactRowDo', WHERE WHAT IT READS IS OF BULK AT MOST 1048576: true; the input reads as it did. -/
def fnExactRowDoUptoRow : OpenClaim := { program := "ytegjajojckbkjaadoor", sum := "a659d8471f1da1c82cdbfbe14574b6d84f68364e02d104b49bd3fdefa0226fc1", func := "loop.example/custumal/laws.FnExactRowDo", spec := "fnExactRowDo", unfollowed := true, recurses := true, named := ["internal/strconv.uint64pow10", "math/bits.deBruijn32tab", "math/bits.deBruijn64tab", "strconv.ErrSyntax", "strconv.ErrRange"], apart := false, laid := [("math/bits.deBruijn32tab", laid_math_bits_deBruijn32tab), ("math/bits.deBruijn64tab", laid_math_bits_deBruijn64tab), ("internal/strconv.uint64pow10", laid_internal_strconv_uint64pow10), ("strconv.ErrRange", laid_strconv_ErrRange), ("strconv.ErrSyntax", laid_strconv_ErrSyntax)], narrowed := true }
def FnExactRowDoUptoSaid : Prop := fnExactRowDoUptoRow.holds Tryd.pinned (OpenSpec.upto fnExactRowDoSpec)

/-- 'laws.FnRowAll', WHERE WHAT IT READS IS OF BULK AT MOST 1048576: true; the input reads as it did. -/
def fnRowAllUptoRow : OpenClaim := { program := "ytegjajojckbkjaadoor", sum := "a659d8471f1da1c82cdbfbe14574b6d84f68364e02d104b49bd3fdefa0226fc1", func := "loop.example/custumal/laws.FnRowAll", spec := "fnRowAll", unfollowed := true, recurses := true, named := ["internal/strconv.uint64pow10", "math/bits.deBruijn32tab", "math/bits.deBruijn64tab", "strconv.ErrSyntax", "strconv.ErrRange"], apart := false, laid := [("math/bits.deBruijn32tab", laid_math_bits_deBruijn32tab), ("math/bits.deBruijn64tab", laid_math_bits_deBruijn64tab), ("internal/strconv.uint64pow10", laid_internal_strconv_uint64pow10), ("strconv.ErrRange", laid_strconv_ErrRange), ("strconv.ErrSyntax", laid_strconv_ErrSyntax)], narrowed := true }
def FnRowAllUptoSaid : Prop := fnRowAllUptoRow.holds Tryd.pinned (OpenSpec.upto fnRowAllSpec)

/-- 'laws.FnExactShapeAll', WHERE WHAT IT READS IS OF BULK AT MOST 1048576: true; the input reads as it did. -/
def fnExactShapeAllUptoRow : OpenClaim := { program := "ytegjajojckbkjaadoor", sum := "a659d8471f1da1c82cdbfbe14574b6d84f68364e02d104b49bd3fdefa0226fc1", func := "loop.example/custumal/laws.FnExactShapeAll", spec := "fnExactShapeAll", unfollowed := true, recurses := true, named := ["internal/strconv.uint64pow10", "math/bits.deBruijn32tab", "math/bits.deBruijn64tab", "strconv.ErrSyntax", "strconv.ErrRange"], apart := false, laid := [("math/bits.deBruijn32tab", laid_math_bits_deBruijn32tab), ("math/bits.deBruijn64tab", laid_math_bits_deBruijn64tab), ("internal/strconv.uint64pow10", laid_internal_strconv_uint64pow10), ("strconv.ErrRange", laid_strconv_ErrRange), ("strconv.ErrSyntax", laid_strconv_ErrSyntax)], narrowed := true }
def FnExactShapeAllUptoSaid : Prop := fnExactShapeAllUptoRow.holds Tryd.pinned (OpenSpec.upto fnExactShapeAllSpec)

end Rows
end Go.Proofs.YtegjajojckbkjaaDoor
