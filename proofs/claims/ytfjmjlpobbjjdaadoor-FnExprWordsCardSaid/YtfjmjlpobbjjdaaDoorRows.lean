/-
  NARROWER THAN 'FOR EVERY INPUT', by the rows' own cells (each row's printed sentence says how): FnExprLast: laid · FnExactExprOf: loops, laid · FnExprWords: laid · FnExactExprOk: loops, laid · FnExprBent: laid · FnExactExprType: loops, laid · FnExprOf: laid · FnExprSwap: laid · FnExprType: laid · FnExprSame: laid · FnExactExprWords: loops, laid.
  DERIVED. THE GIVEN ROWS OF THIS SEAT. 11 by the template 'for every input the law returns true; each argument reads behind the call as it read before'; 0 by the template 'total and deterministic' (their statements: YtfjmjlpobbjjdaaDoorTotals.lean).
  GIVEN WITH THE SEED: the statements are not yours to turn. If you find one false, say at which input.
  Laid BY PROGRAM, IN A SANDBOX (cutbox-rows.mjs): the forced cells as the released guide's own fill.sh prints them over the translation c338448b033092a6… (all of the seat's roots in one cut). By AI agents, Wed Nov 11 2026. No macro, syntax, notation, axiom, sorry.
-/
import Derived.Test.YtfjmjlpobbjjdaaDoorChecked
import GoSem.Claim
import GoSem.ClaimJoined
import GoSem.ClaimMapViews
import Derived.JoinedTies
import Derived.KernelRfl
namespace Go.Proofs.YtfjmjlpobbjjdaaDoor
/- THE CELL 'sum', in the pinned program and in every row, IS THE sha256 OF THE DUMP (.gsa) THAT YtfjmjlpobbjjdaaDoorProg.lean LOADS. Nothing in Lean hashes anything: it is a label: what it is worth is what the hold of that sum in a sandbox is worth. -/
noncomputable def Tryd.pinned : Pinned := { name := "ytfjmjlpobbjjdaadoor", sum := "c338448b033092a67c34a88d9a5274923dab42a1c53518ab4ef9b2c9c0a7378e", checked := Tryd.checked }
namespace Rows
def none {H : Type} : Left H := { results := [], args := [] }

/- WHAT THE LISTED PACKAGE-LEVEL VARIABLES READ AS WHEN THE CALL BEGINS. Each datum BY PROGRAM (the guide's laid-datum.mjs) off the statement by which the dump's own 'gosem.cut.vars' lays the variable. In a bare row this is a premise. The card (YtfjmjlpobbjjdaaDoorCards.lean) ties it to the program's text. -/
def laid_math_bits_deBruijn32tab {H : Type} : DataW H := .agg [.lit (.int .u8 0), .lit (.int .u8 1), .lit (.int .u8 28), .lit (.int .u8 2), .lit (.int .u8 29), .lit (.int .u8 14), .lit (.int .u8 24), .lit (.int .u8 3), .lit (.int .u8 30), .lit (.int .u8 22), .lit (.int .u8 20), .lit (.int .u8 15), .lit (.int .u8 25), .lit (.int .u8 17), .lit (.int .u8 4), .lit (.int .u8 8), .lit (.int .u8 31), .lit (.int .u8 27), .lit (.int .u8 13), .lit (.int .u8 23), .lit (.int .u8 21), .lit (.int .u8 19), .lit (.int .u8 16), .lit (.int .u8 7), .lit (.int .u8 26), .lit (.int .u8 12), .lit (.int .u8 18), .lit (.int .u8 6), .lit (.int .u8 11), .lit (.int .u8 5), .lit (.int .u8 10), .lit (.int .u8 9)]
def laid_math_bits_deBruijn64tab {H : Type} : DataW H := .agg [.lit (.int .u8 0), .lit (.int .u8 1), .lit (.int .u8 56), .lit (.int .u8 2), .lit (.int .u8 57), .lit (.int .u8 49), .lit (.int .u8 28), .lit (.int .u8 3), .lit (.int .u8 61), .lit (.int .u8 58), .lit (.int .u8 42), .lit (.int .u8 50), .lit (.int .u8 38), .lit (.int .u8 29), .lit (.int .u8 17), .lit (.int .u8 4), .lit (.int .u8 62), .lit (.int .u8 47), .lit (.int .u8 59), .lit (.int .u8 36), .lit (.int .u8 45), .lit (.int .u8 43), .lit (.int .u8 51), .lit (.int .u8 22), .lit (.int .u8 53), .lit (.int .u8 39), .lit (.int .u8 33), .lit (.int .u8 30), .lit (.int .u8 24), .lit (.int .u8 18), .lit (.int .u8 12), .lit (.int .u8 5), .lit (.int .u8 63), .lit (.int .u8 55), .lit (.int .u8 48), .lit (.int .u8 27), .lit (.int .u8 60), .lit (.int .u8 41), .lit (.int .u8 37), .lit (.int .u8 16), .lit (.int .u8 46), .lit (.int .u8 35), .lit (.int .u8 44), .lit (.int .u8 21), .lit (.int .u8 52), .lit (.int .u8 32), .lit (.int .u8 23), .lit (.int .u8 11), .lit (.int .u8 54), .lit (.int .u8 26), .lit (.int .u8 40), .lit (.int .u8 15), .lit (.int .u8 34), .lit (.int .u8 20), .lit (.int .u8 31), .lit (.int .u8 10), .lit (.int .u8 25), .lit (.int .u8 14), .lit (.int .u8 19), .lit (.int .u8 9), .lit (.int .u8 13), .lit (.int .u8 8), .lit (.int .u8 7), .lit (.int .u8 6)]
def laid_internal_strconv_uint64pow10 {H : Type} : DataW H := .agg [.lit (.int .u64 1), .lit (.int .u64 10), .lit (.int .u64 100), .lit (.int .u64 1000), .lit (.int .u64 10000), .lit (.int .u64 100000), .lit (.int .u64 1000000), .lit (.int .u64 10000000), .lit (.int .u64 100000000), .lit (.int .u64 1000000000), .lit (.int .u64 10000000000), .lit (.int .u64 100000000000), .lit (.int .u64 1000000000000), .lit (.int .u64 10000000000000), .lit (.int .u64 100000000000000), .lit (.int .u64 1000000000000000), .lit (.int .u64 10000000000000000), .lit (.int .u64 100000000000000000), .lit (.int .u64 1000000000000000000), .lit (.int .u64 10000000000000000000)]
def laid_strconv_ErrRange {H : Type} : DataW H := .iface "*errors.errorString" (.ptr (.agg [.lit (.string [118, 97, 108, 117, 101, 32, 111, 117, 116, 32, 111, 102, 32, 114, 97, 110, 103, 101])]))
def laid_strconv_ErrSyntax {H : Type} : DataW H := .iface "*errors.errorString" (.ptr (.agg [.lit (.string [105, 110, 118, 97, 108, 105, 100, 32, 115, 121, 110, 116, 97, 120])]))
def laid_loop_example_interlinear_impl_ownWords {H : Type} : DataW H := .slice [.lit (.string [108, 101, 116]), .lit (.string [115, 97, 121]), .lit (.string [119, 104, 101, 110]), .lit (.string [97, 115]), .lit (.string [112, 114, 105, 110, 116]), .lit (.string [105, 102]), .lit (.string [105, 110, 116]), .lit (.string [98, 111, 111, 108])] []

/-- 'laws.FnExprLast': WHATEVER THE INPUT: true; the input reads as it did. -/
def fnExprLastSpec : ChangeSpec := { name := "fnExprLast", vars := ["loop.example/interlinear/impl.ownWords"], fn := fun _ => fun
  | [d, g1] => { results := [.lit (.bool true)], args := [d], vars := [g1] }
  | _ => none }
def fnExprLastRow : OpenClaim := { program := "ytfjmjlpobbjjdaadoor", sum := "c338448b033092a67c34a88d9a5274923dab42a1c53518ab4ef9b2c9c0a7378e", func := "loop.example/interlinear/laws.FnExprLast", spec := "fnExprLast", inPlace := ["internal/bytealg.IndexByteString", "internal/bytealg.IndexString"], unfollowed := true, recurses := true, named := ["loop.example/interlinear/impl.ownWords", "strconv.ErrSyntax", "strconv.ErrRange", "internal/strconv.uint64pow10", "math/bits.deBruijn32tab", "math/bits.deBruijn64tab", "internal/bytealg.MaxLen"], apart := false, laid := [("math/bits.deBruijn32tab", laid_math_bits_deBruijn32tab), ("math/bits.deBruijn64tab", laid_math_bits_deBruijn64tab), ("internal/strconv.uint64pow10", laid_internal_strconv_uint64pow10), ("strconv.ErrRange", laid_strconv_ErrRange), ("strconv.ErrSyntax", laid_strconv_ErrSyntax), ("loop.example/interlinear/impl.ownWords", laid_loop_example_interlinear_impl_ownWords)] }
def FnExprLastSaid : Prop := fnExprLastRow.holds Tryd.pinned (OpenSpec.ofChange fnExprLastSpec)

/-- ITS FALSE NEIGHBOUR: 'it returns false'. Refute it at one input. -/
def fnExprLastWrong : ChangeSpec := { name := "fnExprLast", vars := ["loop.example/interlinear/impl.ownWords"], fn := fun _ => fun
  | [d, g1] => { results := [.lit (.bool false)], args := [d], vars := [g1] }
  | _ => none }
def FnExprLastWrongFalsely : Prop := fnExprLastRow.holds Tryd.pinned (OpenSpec.ofChange fnExprLastWrong)

/-- 'laws.FnExactExprOf': WHATEVER THE INPUT: true; the input reads as it did. -/
def fnExactExprOfSpec : ChangeSpec := { name := "fnExactExprOf", vars := ["loop.example/interlinear/impl.ownWords"], fn := fun _ => fun
  | [d1, d2, d3, g1] => { results := [.lit (.bool true)], args := [d1, d2, d3], vars := [g1] }
  | _ => none }
def fnExactExprOfRow : OpenClaim := { program := "ytfjmjlpobbjjdaadoor", sum := "c338448b033092a67c34a88d9a5274923dab42a1c53518ab4ef9b2c9c0a7378e", func := "loop.example/interlinear/laws.FnExactExprOf", spec := "fnExactExprOf", inPlace := ["internal/bytealg.IndexByteString", "internal/bytealg.IndexString"], unfollowed := true, recurses := true, named := ["loop.example/interlinear/impl.ownWords", "strconv.ErrSyntax", "strconv.ErrRange", "internal/strconv.uint64pow10", "math/bits.deBruijn32tab", "math/bits.deBruijn64tab", "internal/bytealg.MaxLen"], loops := true, apart := false, laid := [("math/bits.deBruijn32tab", laid_math_bits_deBruijn32tab), ("math/bits.deBruijn64tab", laid_math_bits_deBruijn64tab), ("internal/strconv.uint64pow10", laid_internal_strconv_uint64pow10), ("strconv.ErrRange", laid_strconv_ErrRange), ("strconv.ErrSyntax", laid_strconv_ErrSyntax), ("loop.example/interlinear/impl.ownWords", laid_loop_example_interlinear_impl_ownWords)] }
def FnExactExprOfSaid : Prop := fnExactExprOfRow.holds Tryd.pinned (OpenSpec.ofChange fnExactExprOfSpec)

/-- ITS FALSE NEIGHBOUR: 'it returns false'. Refute it at one input. -/
def fnExactExprOfWrong : ChangeSpec := { name := "fnExactExprOf", vars := ["loop.example/interlinear/impl.ownWords"], fn := fun _ => fun
  | [d1, d2, d3, g1] => { results := [.lit (.bool false)], args := [d1, d2, d3], vars := [g1] }
  | _ => none }
def FnExactExprOfWrongFalsely : Prop := fnExactExprOfRow.holds Tryd.pinned (OpenSpec.ofChange fnExactExprOfWrong)

/-- 'laws.FnExprWords': WHATEVER THE INPUT: true; the input reads as it did. -/
def fnExprWordsSpec : ChangeSpec := { name := "fnExprWords", vars := ["loop.example/interlinear/impl.ownWords"], fn := fun _ => fun
  | [d, g1] => { results := [.lit (.bool true)], args := [d], vars := [g1] }
  | _ => none }
def fnExprWordsRow : OpenClaim := { program := "ytfjmjlpobbjjdaadoor", sum := "c338448b033092a67c34a88d9a5274923dab42a1c53518ab4ef9b2c9c0a7378e", func := "loop.example/interlinear/laws.FnExprWords", spec := "fnExprWords", inPlace := ["internal/bytealg.IndexByteString", "internal/bytealg.IndexString", "internal/abi.NoEscape", "internal/bytealg.MakeNoZero"], unfollowed := true, recurses := true, named := ["loop.example/interlinear/impl.ownWords", "strconv.ErrSyntax", "strconv.ErrRange", "internal/strconv.uint64pow10", "math/bits.deBruijn32tab", "math/bits.deBruijn64tab", "internal/bytealg.MaxLen"], apart := false, laid := [("math/bits.deBruijn32tab", laid_math_bits_deBruijn32tab), ("math/bits.deBruijn64tab", laid_math_bits_deBruijn64tab), ("internal/strconv.uint64pow10", laid_internal_strconv_uint64pow10), ("strconv.ErrRange", laid_strconv_ErrRange), ("strconv.ErrSyntax", laid_strconv_ErrSyntax), ("loop.example/interlinear/impl.ownWords", laid_loop_example_interlinear_impl_ownWords)] }
def FnExprWordsSaid : Prop := fnExprWordsRow.holds Tryd.pinned (OpenSpec.ofChange fnExprWordsSpec)

/-- ITS FALSE NEIGHBOUR: 'it returns false'. Refute it at one input. -/
def fnExprWordsWrong : ChangeSpec := { name := "fnExprWords", vars := ["loop.example/interlinear/impl.ownWords"], fn := fun _ => fun
  | [d, g1] => { results := [.lit (.bool false)], args := [d], vars := [g1] }
  | _ => none }
def FnExprWordsWrongFalsely : Prop := fnExprWordsRow.holds Tryd.pinned (OpenSpec.ofChange fnExprWordsWrong)

/-- 'laws.FnExactExprOk': WHATEVER THE INPUT: true; the input reads as it did. -/
def fnExactExprOkSpec : ChangeSpec := { name := "fnExactExprOk", vars := ["loop.example/interlinear/impl.ownWords"], fn := fun _ => fun
  | [d, g1] => { results := [.lit (.bool true)], args := [d], vars := [g1] }
  | _ => none }
def fnExactExprOkRow : OpenClaim := { program := "ytfjmjlpobbjjdaadoor", sum := "c338448b033092a67c34a88d9a5274923dab42a1c53518ab4ef9b2c9c0a7378e", func := "loop.example/interlinear/laws.FnExactExprOk", spec := "fnExactExprOk", inPlace := ["internal/bytealg.IndexByteString", "internal/bytealg.IndexString"], unfollowed := true, recurses := true, named := ["loop.example/interlinear/impl.ownWords", "strconv.ErrSyntax", "strconv.ErrRange", "internal/strconv.uint64pow10", "math/bits.deBruijn32tab", "math/bits.deBruijn64tab", "internal/bytealg.MaxLen"], loops := true, apart := false, laid := [("math/bits.deBruijn32tab", laid_math_bits_deBruijn32tab), ("math/bits.deBruijn64tab", laid_math_bits_deBruijn64tab), ("internal/strconv.uint64pow10", laid_internal_strconv_uint64pow10), ("strconv.ErrRange", laid_strconv_ErrRange), ("strconv.ErrSyntax", laid_strconv_ErrSyntax), ("loop.example/interlinear/impl.ownWords", laid_loop_example_interlinear_impl_ownWords)] }
def FnExactExprOkSaid : Prop := fnExactExprOkRow.holds Tryd.pinned (OpenSpec.ofChange fnExactExprOkSpec)

/-- ITS FALSE NEIGHBOUR: 'it returns false'. Refute it at one input. -/
def fnExactExprOkWrong : ChangeSpec := { name := "fnExactExprOk", vars := ["loop.example/interlinear/impl.ownWords"], fn := fun _ => fun
  | [d, g1] => { results := [.lit (.bool false)], args := [d], vars := [g1] }
  | _ => none }
def FnExactExprOkWrongFalsely : Prop := fnExactExprOkRow.holds Tryd.pinned (OpenSpec.ofChange fnExactExprOkWrong)

/-- 'laws.FnExprBent': WHATEVER THE INPUT: true; the input reads as it did. -/
def fnExprBentSpec : ChangeSpec := { name := "fnExprBent", vars := ["loop.example/interlinear/impl.ownWords"], fn := fun _ => fun
  | [d, g1] => { results := [.lit (.bool true)], args := [d], vars := [g1] }
  | _ => none }
def fnExprBentRow : OpenClaim := { program := "ytfjmjlpobbjjdaadoor", sum := "c338448b033092a67c34a88d9a5274923dab42a1c53518ab4ef9b2c9c0a7378e", func := "loop.example/interlinear/laws.FnExprBent", spec := "fnExprBent", inPlace := ["internal/bytealg.IndexByteString", "internal/bytealg.IndexString"], unfollowed := true, recurses := true, named := ["loop.example/interlinear/impl.ownWords", "strconv.ErrSyntax", "strconv.ErrRange", "internal/strconv.uint64pow10", "math/bits.deBruijn32tab", "math/bits.deBruijn64tab", "internal/bytealg.MaxLen"], apart := false, laid := [("math/bits.deBruijn32tab", laid_math_bits_deBruijn32tab), ("math/bits.deBruijn64tab", laid_math_bits_deBruijn64tab), ("internal/strconv.uint64pow10", laid_internal_strconv_uint64pow10), ("strconv.ErrRange", laid_strconv_ErrRange), ("strconv.ErrSyntax", laid_strconv_ErrSyntax), ("loop.example/interlinear/impl.ownWords", laid_loop_example_interlinear_impl_ownWords)] }
def FnExprBentSaid : Prop := fnExprBentRow.holds Tryd.pinned (OpenSpec.ofChange fnExprBentSpec)

/-- ITS FALSE NEIGHBOUR: 'it returns false'. Refute it at one input. -/
def fnExprBentWrong : ChangeSpec := { name := "fnExprBent", vars := ["loop.example/interlinear/impl.ownWords"], fn := fun _ => fun
  | [d, g1] => { results := [.lit (.bool false)], args := [d], vars := [g1] }
  | _ => none }
def FnExprBentWrongFalsely : Prop := fnExprBentRow.holds Tryd.pinned (OpenSpec.ofChange fnExprBentWrong)

/-- 'laws.FnExactExprType': WHATEVER THE INPUT: true; the input reads as it did. -/
def fnExactExprTypeSpec : ChangeSpec := { name := "fnExactExprType", vars := ["loop.example/interlinear/impl.ownWords"], fn := fun _ => fun
  | [d1, d2, d3, g1] => { results := [.lit (.bool true)], args := [d1, d2, d3], vars := [g1] }
  | _ => none }
def fnExactExprTypeRow : OpenClaim := { program := "ytfjmjlpobbjjdaadoor", sum := "c338448b033092a67c34a88d9a5274923dab42a1c53518ab4ef9b2c9c0a7378e", func := "loop.example/interlinear/laws.FnExactExprType", spec := "fnExactExprType", inPlace := ["internal/bytealg.IndexByteString", "internal/bytealg.IndexString"], unfollowed := true, recurses := true, named := ["loop.example/interlinear/impl.ownWords", "strconv.ErrSyntax", "strconv.ErrRange", "internal/strconv.uint64pow10", "math/bits.deBruijn32tab", "math/bits.deBruijn64tab", "internal/bytealg.MaxLen"], loops := true, apart := false, laid := [("math/bits.deBruijn32tab", laid_math_bits_deBruijn32tab), ("math/bits.deBruijn64tab", laid_math_bits_deBruijn64tab), ("internal/strconv.uint64pow10", laid_internal_strconv_uint64pow10), ("strconv.ErrRange", laid_strconv_ErrRange), ("strconv.ErrSyntax", laid_strconv_ErrSyntax), ("loop.example/interlinear/impl.ownWords", laid_loop_example_interlinear_impl_ownWords)] }
def FnExactExprTypeSaid : Prop := fnExactExprTypeRow.holds Tryd.pinned (OpenSpec.ofChange fnExactExprTypeSpec)

/-- ITS FALSE NEIGHBOUR: 'it returns false'. Refute it at one input. -/
def fnExactExprTypeWrong : ChangeSpec := { name := "fnExactExprType", vars := ["loop.example/interlinear/impl.ownWords"], fn := fun _ => fun
  | [d1, d2, d3, g1] => { results := [.lit (.bool false)], args := [d1, d2, d3], vars := [g1] }
  | _ => none }
def FnExactExprTypeWrongFalsely : Prop := fnExactExprTypeRow.holds Tryd.pinned (OpenSpec.ofChange fnExactExprTypeWrong)

/-- 'laws.FnExprOf': WHATEVER THE INPUT: true; the input reads as it did. -/
def fnExprOfSpec : ChangeSpec := { name := "fnExprOf", vars := ["loop.example/interlinear/impl.ownWords"], fn := fun _ => fun
  | [d, g1] => { results := [.lit (.bool true)], args := [d], vars := [g1] }
  | _ => none }
def fnExprOfRow : OpenClaim := { program := "ytfjmjlpobbjjdaadoor", sum := "c338448b033092a67c34a88d9a5274923dab42a1c53518ab4ef9b2c9c0a7378e", func := "loop.example/interlinear/laws.FnExprOf", spec := "fnExprOf", inPlace := ["internal/bytealg.IndexByteString", "internal/bytealg.IndexString"], unfollowed := true, recurses := true, named := ["loop.example/interlinear/impl.ownWords", "strconv.ErrSyntax", "strconv.ErrRange", "internal/strconv.uint64pow10", "math/bits.deBruijn32tab", "math/bits.deBruijn64tab", "internal/bytealg.MaxLen"], apart := false, laid := [("math/bits.deBruijn32tab", laid_math_bits_deBruijn32tab), ("math/bits.deBruijn64tab", laid_math_bits_deBruijn64tab), ("internal/strconv.uint64pow10", laid_internal_strconv_uint64pow10), ("strconv.ErrRange", laid_strconv_ErrRange), ("strconv.ErrSyntax", laid_strconv_ErrSyntax), ("loop.example/interlinear/impl.ownWords", laid_loop_example_interlinear_impl_ownWords)] }
def FnExprOfSaid : Prop := fnExprOfRow.holds Tryd.pinned (OpenSpec.ofChange fnExprOfSpec)

/-- ITS FALSE NEIGHBOUR: 'it returns false'. Refute it at one input. -/
def fnExprOfWrong : ChangeSpec := { name := "fnExprOf", vars := ["loop.example/interlinear/impl.ownWords"], fn := fun _ => fun
  | [d, g1] => { results := [.lit (.bool false)], args := [d], vars := [g1] }
  | _ => none }
def FnExprOfWrongFalsely : Prop := fnExprOfRow.holds Tryd.pinned (OpenSpec.ofChange fnExprOfWrong)

/-- 'laws.FnExprSwap': WHATEVER THE INPUT: true; the input reads as it did. -/
def fnExprSwapSpec : ChangeSpec := { name := "fnExprSwap", vars := ["loop.example/interlinear/impl.ownWords"], fn := fun _ => fun
  | [d1, d2, g1] => { results := [.lit (.bool true)], args := [d1, d2], vars := [g1] }
  | _ => none }
def fnExprSwapRow : OpenClaim := { program := "ytfjmjlpobbjjdaadoor", sum := "c338448b033092a67c34a88d9a5274923dab42a1c53518ab4ef9b2c9c0a7378e", func := "loop.example/interlinear/laws.FnExprSwap", spec := "fnExprSwap", inPlace := ["internal/bytealg.IndexByteString", "internal/bytealg.IndexString"], unfollowed := true, recurses := true, named := ["loop.example/interlinear/impl.ownWords", "strconv.ErrSyntax", "strconv.ErrRange", "internal/strconv.uint64pow10", "math/bits.deBruijn32tab", "math/bits.deBruijn64tab", "internal/bytealg.MaxLen"], apart := false, laid := [("math/bits.deBruijn32tab", laid_math_bits_deBruijn32tab), ("math/bits.deBruijn64tab", laid_math_bits_deBruijn64tab), ("internal/strconv.uint64pow10", laid_internal_strconv_uint64pow10), ("strconv.ErrRange", laid_strconv_ErrRange), ("strconv.ErrSyntax", laid_strconv_ErrSyntax), ("loop.example/interlinear/impl.ownWords", laid_loop_example_interlinear_impl_ownWords)] }
def FnExprSwapSaid : Prop := fnExprSwapRow.holds Tryd.pinned (OpenSpec.ofChange fnExprSwapSpec)

/-- ITS FALSE NEIGHBOUR: 'it returns false'. Refute it at one input. -/
def fnExprSwapWrong : ChangeSpec := { name := "fnExprSwap", vars := ["loop.example/interlinear/impl.ownWords"], fn := fun _ => fun
  | [d1, d2, g1] => { results := [.lit (.bool false)], args := [d1, d2], vars := [g1] }
  | _ => none }
def FnExprSwapWrongFalsely : Prop := fnExprSwapRow.holds Tryd.pinned (OpenSpec.ofChange fnExprSwapWrong)

/-- 'laws.FnExprType': WHATEVER THE INPUT: true; the input reads as it did. -/
def fnExprTypeSpec : ChangeSpec := { name := "fnExprType", vars := ["loop.example/interlinear/impl.ownWords"], fn := fun _ => fun
  | [d, g1] => { results := [.lit (.bool true)], args := [d], vars := [g1] }
  | _ => none }
def fnExprTypeRow : OpenClaim := { program := "ytfjmjlpobbjjdaadoor", sum := "c338448b033092a67c34a88d9a5274923dab42a1c53518ab4ef9b2c9c0a7378e", func := "loop.example/interlinear/laws.FnExprType", spec := "fnExprType", inPlace := ["internal/bytealg.IndexByteString", "internal/bytealg.IndexString"], unfollowed := true, recurses := true, named := ["loop.example/interlinear/impl.ownWords", "strconv.ErrSyntax", "strconv.ErrRange", "internal/strconv.uint64pow10", "math/bits.deBruijn32tab", "math/bits.deBruijn64tab", "internal/bytealg.MaxLen"], apart := false, laid := [("math/bits.deBruijn32tab", laid_math_bits_deBruijn32tab), ("math/bits.deBruijn64tab", laid_math_bits_deBruijn64tab), ("internal/strconv.uint64pow10", laid_internal_strconv_uint64pow10), ("strconv.ErrRange", laid_strconv_ErrRange), ("strconv.ErrSyntax", laid_strconv_ErrSyntax), ("loop.example/interlinear/impl.ownWords", laid_loop_example_interlinear_impl_ownWords)] }
def FnExprTypeSaid : Prop := fnExprTypeRow.holds Tryd.pinned (OpenSpec.ofChange fnExprTypeSpec)

/-- ITS FALSE NEIGHBOUR: 'it returns false'. Refute it at one input. -/
def fnExprTypeWrong : ChangeSpec := { name := "fnExprType", vars := ["loop.example/interlinear/impl.ownWords"], fn := fun _ => fun
  | [d, g1] => { results := [.lit (.bool false)], args := [d], vars := [g1] }
  | _ => none }
def FnExprTypeWrongFalsely : Prop := fnExprTypeRow.holds Tryd.pinned (OpenSpec.ofChange fnExprTypeWrong)

/-- 'laws.FnExprSame': WHATEVER THE INPUT: true; the input reads as it did. -/
def fnExprSameSpec : ChangeSpec := { name := "fnExprSame", vars := ["loop.example/interlinear/impl.ownWords"], fn := fun _ => fun
  | [d1, d2, g1] => { results := [.lit (.bool true)], args := [d1, d2], vars := [g1] }
  | _ => none }
def fnExprSameRow : OpenClaim := { program := "ytfjmjlpobbjjdaadoor", sum := "c338448b033092a67c34a88d9a5274923dab42a1c53518ab4ef9b2c9c0a7378e", func := "loop.example/interlinear/laws.FnExprSame", spec := "fnExprSame", inPlace := ["internal/bytealg.IndexByteString", "internal/bytealg.IndexString", "internal/abi.NoEscape", "internal/bytealg.MakeNoZero"], unfollowed := true, recurses := true, named := ["loop.example/interlinear/impl.ownWords", "strconv.ErrSyntax", "strconv.ErrRange", "internal/strconv.uint64pow10", "math/bits.deBruijn32tab", "math/bits.deBruijn64tab", "internal/bytealg.MaxLen"], apart := false, laid := [("math/bits.deBruijn32tab", laid_math_bits_deBruijn32tab), ("math/bits.deBruijn64tab", laid_math_bits_deBruijn64tab), ("internal/strconv.uint64pow10", laid_internal_strconv_uint64pow10), ("strconv.ErrRange", laid_strconv_ErrRange), ("strconv.ErrSyntax", laid_strconv_ErrSyntax), ("loop.example/interlinear/impl.ownWords", laid_loop_example_interlinear_impl_ownWords)] }
def FnExprSameSaid : Prop := fnExprSameRow.holds Tryd.pinned (OpenSpec.ofChange fnExprSameSpec)

/-- ITS FALSE NEIGHBOUR: 'it returns false'. Refute it at one input. -/
def fnExprSameWrong : ChangeSpec := { name := "fnExprSame", vars := ["loop.example/interlinear/impl.ownWords"], fn := fun _ => fun
  | [d1, d2, g1] => { results := [.lit (.bool false)], args := [d1, d2], vars := [g1] }
  | _ => none }
def FnExprSameWrongFalsely : Prop := fnExprSameRow.holds Tryd.pinned (OpenSpec.ofChange fnExprSameWrong)

/-- 'laws.FnExactExprWords': WHATEVER THE INPUT: true; the input reads as it did. -/
def fnExactExprWordsSpec : ChangeSpec := { name := "fnExactExprWords", vars := ["loop.example/interlinear/impl.ownWords"], fn := fun _ => fun
  | [d, g1] => { results := [.lit (.bool true)], args := [d], vars := [g1] }
  | _ => none }
def fnExactExprWordsRow : OpenClaim := { program := "ytfjmjlpobbjjdaadoor", sum := "c338448b033092a67c34a88d9a5274923dab42a1c53518ab4ef9b2c9c0a7378e", func := "loop.example/interlinear/laws.FnExactExprWords", spec := "fnExactExprWords", inPlace := ["internal/bytealg.IndexByteString", "internal/bytealg.IndexString"], unfollowed := true, recurses := true, named := ["loop.example/interlinear/impl.ownWords", "strconv.ErrSyntax", "strconv.ErrRange", "internal/strconv.uint64pow10", "math/bits.deBruijn32tab", "math/bits.deBruijn64tab", "internal/bytealg.MaxLen"], loops := true, apart := false, laid := [("math/bits.deBruijn32tab", laid_math_bits_deBruijn32tab), ("math/bits.deBruijn64tab", laid_math_bits_deBruijn64tab), ("internal/strconv.uint64pow10", laid_internal_strconv_uint64pow10), ("strconv.ErrRange", laid_strconv_ErrRange), ("strconv.ErrSyntax", laid_strconv_ErrSyntax), ("loop.example/interlinear/impl.ownWords", laid_loop_example_interlinear_impl_ownWords)] }
def FnExactExprWordsSaid : Prop := fnExactExprWordsRow.holds Tryd.pinned (OpenSpec.ofChange fnExactExprWordsSpec)

/-- ITS FALSE NEIGHBOUR: 'it returns false'. Refute it at one input. -/
def fnExactExprWordsWrong : ChangeSpec := { name := "fnExactExprWords", vars := ["loop.example/interlinear/impl.ownWords"], fn := fun _ => fun
  | [d, g1] => { results := [.lit (.bool false)], args := [d], vars := [g1] }
  | _ => none }
def FnExactExprWordsWrongFalsely : Prop := fnExactExprWordsRow.holds Tryd.pinned (OpenSpec.ofChange fnExactExprWordsWrong)

/- THE SECOND FORM. 'bulk': how many values and letters a reading holds, each counted each time it is reached (what is shared counts as often as it is met; a slice's spare places count too). A statement '..UptoSaid' is the law's where the arguments, and the package variables that the reading takes, are together of bulk at most 1048576: NARROWER than '..Said'. Prove '..Said' where nothing that the law and all that it calls make is longer than what came in: it says more and counts as full. Else prove '..UptoSaid'. A law counts once. -/
mutual
def uptoBulk {H : Type} : DataW H → Nat
  | .lit (.string bytes) => bytes.length + 1
  | .lit _ => 1
  | .nil => 1
  | .ptr d => uptoBulk d + 1
  | .slice elems spare => uptoBulkAll elems + uptoBulkAll spare + 1
  | .agg parts => uptoBulkAll parts + 1
  | .iface _ d => uptoBulk d + 1
  | .map entries => uptoBulkEntries entries + 1
  | .held _ => 1
def uptoBulkAll {H : Type} : List (DataW H) → Nat
  | [] => 0
  | d :: r => uptoBulk d + uptoBulkAll r
def uptoBulkEntries {H : Type} : List (Lit × DataW H) → Nat
  | [] => 0
  | x :: r => uptoBulkEntry x + uptoBulkEntries r
def uptoBulkEntry {H : Type} : Lit × DataW H → Nat
  | (.string bytes, d) => bytes.length + uptoBulk d + 1
  | (_, d) => uptoBulk d + 1
 end
def uptoSmall : (H : Type) → List (DataW H) → Bool := fun _ ds => decide (uptoBulkAll ds ≤ 1048576)
def OpenSpec.upto (s : _root_.Go.ChangeSpec) : _root_.Go.OpenSpec := { _root_.Go.OpenSpec.ofChange s with cond := some uptoSmall }

/-- 'laws.FnExprLast', WHERE WHAT IT READS IS OF BULK AT MOST 1048576: true; the input reads as it did. -/
def fnExprLastUptoRow : OpenClaim := { program := "ytfjmjlpobbjjdaadoor", sum := "c338448b033092a67c34a88d9a5274923dab42a1c53518ab4ef9b2c9c0a7378e", func := "loop.example/interlinear/laws.FnExprLast", spec := "fnExprLast", inPlace := ["internal/bytealg.IndexByteString", "internal/bytealg.IndexString"], unfollowed := true, recurses := true, named := ["loop.example/interlinear/impl.ownWords", "strconv.ErrSyntax", "strconv.ErrRange", "internal/strconv.uint64pow10", "math/bits.deBruijn32tab", "math/bits.deBruijn64tab", "internal/bytealg.MaxLen"], apart := false, laid := [("math/bits.deBruijn32tab", laid_math_bits_deBruijn32tab), ("math/bits.deBruijn64tab", laid_math_bits_deBruijn64tab), ("internal/strconv.uint64pow10", laid_internal_strconv_uint64pow10), ("strconv.ErrRange", laid_strconv_ErrRange), ("strconv.ErrSyntax", laid_strconv_ErrSyntax), ("loop.example/interlinear/impl.ownWords", laid_loop_example_interlinear_impl_ownWords)], narrowed := true }
def FnExprLastUptoSaid : Prop := fnExprLastUptoRow.holds Tryd.pinned (OpenSpec.upto fnExprLastSpec)

/-- 'laws.FnExactExprOf', WHERE WHAT IT READS IS OF BULK AT MOST 1048576: true; the input reads as it did. -/
def fnExactExprOfUptoRow : OpenClaim := { program := "ytfjmjlpobbjjdaadoor", sum := "c338448b033092a67c34a88d9a5274923dab42a1c53518ab4ef9b2c9c0a7378e", func := "loop.example/interlinear/laws.FnExactExprOf", spec := "fnExactExprOf", inPlace := ["internal/bytealg.IndexByteString", "internal/bytealg.IndexString"], unfollowed := true, recurses := true, named := ["loop.example/interlinear/impl.ownWords", "strconv.ErrSyntax", "strconv.ErrRange", "internal/strconv.uint64pow10", "math/bits.deBruijn32tab", "math/bits.deBruijn64tab", "internal/bytealg.MaxLen"], loops := true, apart := false, laid := [("math/bits.deBruijn32tab", laid_math_bits_deBruijn32tab), ("math/bits.deBruijn64tab", laid_math_bits_deBruijn64tab), ("internal/strconv.uint64pow10", laid_internal_strconv_uint64pow10), ("strconv.ErrRange", laid_strconv_ErrRange), ("strconv.ErrSyntax", laid_strconv_ErrSyntax), ("loop.example/interlinear/impl.ownWords", laid_loop_example_interlinear_impl_ownWords)], narrowed := true }
def FnExactExprOfUptoSaid : Prop := fnExactExprOfUptoRow.holds Tryd.pinned (OpenSpec.upto fnExactExprOfSpec)

/-- 'laws.FnExprWords', WHERE WHAT IT READS IS OF BULK AT MOST 1048576: true; the input reads as it did. -/
def fnExprWordsUptoRow : OpenClaim := { program := "ytfjmjlpobbjjdaadoor", sum := "c338448b033092a67c34a88d9a5274923dab42a1c53518ab4ef9b2c9c0a7378e", func := "loop.example/interlinear/laws.FnExprWords", spec := "fnExprWords", inPlace := ["internal/bytealg.IndexByteString", "internal/bytealg.IndexString", "internal/abi.NoEscape", "internal/bytealg.MakeNoZero"], unfollowed := true, recurses := true, named := ["loop.example/interlinear/impl.ownWords", "strconv.ErrSyntax", "strconv.ErrRange", "internal/strconv.uint64pow10", "math/bits.deBruijn32tab", "math/bits.deBruijn64tab", "internal/bytealg.MaxLen"], apart := false, laid := [("math/bits.deBruijn32tab", laid_math_bits_deBruijn32tab), ("math/bits.deBruijn64tab", laid_math_bits_deBruijn64tab), ("internal/strconv.uint64pow10", laid_internal_strconv_uint64pow10), ("strconv.ErrRange", laid_strconv_ErrRange), ("strconv.ErrSyntax", laid_strconv_ErrSyntax), ("loop.example/interlinear/impl.ownWords", laid_loop_example_interlinear_impl_ownWords)], narrowed := true }
def FnExprWordsUptoSaid : Prop := fnExprWordsUptoRow.holds Tryd.pinned (OpenSpec.upto fnExprWordsSpec)

/-- 'laws.FnExactExprOk', WHERE WHAT IT READS IS OF BULK AT MOST 1048576: true; the input reads as it did. -/
def fnExactExprOkUptoRow : OpenClaim := { program := "ytfjmjlpobbjjdaadoor", sum := "c338448b033092a67c34a88d9a5274923dab42a1c53518ab4ef9b2c9c0a7378e", func := "loop.example/interlinear/laws.FnExactExprOk", spec := "fnExactExprOk", inPlace := ["internal/bytealg.IndexByteString", "internal/bytealg.IndexString"], unfollowed := true, recurses := true, named := ["loop.example/interlinear/impl.ownWords", "strconv.ErrSyntax", "strconv.ErrRange", "internal/strconv.uint64pow10", "math/bits.deBruijn32tab", "math/bits.deBruijn64tab", "internal/bytealg.MaxLen"], loops := true, apart := false, laid := [("math/bits.deBruijn32tab", laid_math_bits_deBruijn32tab), ("math/bits.deBruijn64tab", laid_math_bits_deBruijn64tab), ("internal/strconv.uint64pow10", laid_internal_strconv_uint64pow10), ("strconv.ErrRange", laid_strconv_ErrRange), ("strconv.ErrSyntax", laid_strconv_ErrSyntax), ("loop.example/interlinear/impl.ownWords", laid_loop_example_interlinear_impl_ownWords)], narrowed := true }
def FnExactExprOkUptoSaid : Prop := fnExactExprOkUptoRow.holds Tryd.pinned (OpenSpec.upto fnExactExprOkSpec)

/-- 'laws.FnExprBent', WHERE WHAT IT READS IS OF BULK AT MOST 1048576: true; the input reads as it did. -/
def fnExprBentUptoRow : OpenClaim := { program := "ytfjmjlpobbjjdaadoor", sum := "c338448b033092a67c34a88d9a5274923dab42a1c53518ab4ef9b2c9c0a7378e", func := "loop.example/interlinear/laws.FnExprBent", spec := "fnExprBent", inPlace := ["internal/bytealg.IndexByteString", "internal/bytealg.IndexString"], unfollowed := true, recurses := true, named := ["loop.example/interlinear/impl.ownWords", "strconv.ErrSyntax", "strconv.ErrRange", "internal/strconv.uint64pow10", "math/bits.deBruijn32tab", "math/bits.deBruijn64tab", "internal/bytealg.MaxLen"], apart := false, laid := [("math/bits.deBruijn32tab", laid_math_bits_deBruijn32tab), ("math/bits.deBruijn64tab", laid_math_bits_deBruijn64tab), ("internal/strconv.uint64pow10", laid_internal_strconv_uint64pow10), ("strconv.ErrRange", laid_strconv_ErrRange), ("strconv.ErrSyntax", laid_strconv_ErrSyntax), ("loop.example/interlinear/impl.ownWords", laid_loop_example_interlinear_impl_ownWords)], narrowed := true }
def FnExprBentUptoSaid : Prop := fnExprBentUptoRow.holds Tryd.pinned (OpenSpec.upto fnExprBentSpec)

/-- 'laws.FnExactExprType', WHERE WHAT IT READS IS OF BULK AT MOST 1048576: true; the input reads as it did. -/
def fnExactExprTypeUptoRow : OpenClaim := { program := "ytfjmjlpobbjjdaadoor", sum := "c338448b033092a67c34a88d9a5274923dab42a1c53518ab4ef9b2c9c0a7378e", func := "loop.example/interlinear/laws.FnExactExprType", spec := "fnExactExprType", inPlace := ["internal/bytealg.IndexByteString", "internal/bytealg.IndexString"], unfollowed := true, recurses := true, named := ["loop.example/interlinear/impl.ownWords", "strconv.ErrSyntax", "strconv.ErrRange", "internal/strconv.uint64pow10", "math/bits.deBruijn32tab", "math/bits.deBruijn64tab", "internal/bytealg.MaxLen"], loops := true, apart := false, laid := [("math/bits.deBruijn32tab", laid_math_bits_deBruijn32tab), ("math/bits.deBruijn64tab", laid_math_bits_deBruijn64tab), ("internal/strconv.uint64pow10", laid_internal_strconv_uint64pow10), ("strconv.ErrRange", laid_strconv_ErrRange), ("strconv.ErrSyntax", laid_strconv_ErrSyntax), ("loop.example/interlinear/impl.ownWords", laid_loop_example_interlinear_impl_ownWords)], narrowed := true }
def FnExactExprTypeUptoSaid : Prop := fnExactExprTypeUptoRow.holds Tryd.pinned (OpenSpec.upto fnExactExprTypeSpec)

/-- 'laws.FnExprOf', WHERE WHAT IT READS IS OF BULK AT MOST 1048576: true; the input reads as it did. -/
def fnExprOfUptoRow : OpenClaim := { program := "ytfjmjlpobbjjdaadoor", sum := "c338448b033092a67c34a88d9a5274923dab42a1c53518ab4ef9b2c9c0a7378e", func := "loop.example/interlinear/laws.FnExprOf", spec := "fnExprOf", inPlace := ["internal/bytealg.IndexByteString", "internal/bytealg.IndexString"], unfollowed := true, recurses := true, named := ["loop.example/interlinear/impl.ownWords", "strconv.ErrSyntax", "strconv.ErrRange", "internal/strconv.uint64pow10", "math/bits.deBruijn32tab", "math/bits.deBruijn64tab", "internal/bytealg.MaxLen"], apart := false, laid := [("math/bits.deBruijn32tab", laid_math_bits_deBruijn32tab), ("math/bits.deBruijn64tab", laid_math_bits_deBruijn64tab), ("internal/strconv.uint64pow10", laid_internal_strconv_uint64pow10), ("strconv.ErrRange", laid_strconv_ErrRange), ("strconv.ErrSyntax", laid_strconv_ErrSyntax), ("loop.example/interlinear/impl.ownWords", laid_loop_example_interlinear_impl_ownWords)], narrowed := true }
def FnExprOfUptoSaid : Prop := fnExprOfUptoRow.holds Tryd.pinned (OpenSpec.upto fnExprOfSpec)

/-- 'laws.FnExprSwap', WHERE WHAT IT READS IS OF BULK AT MOST 1048576: true; the input reads as it did. -/
def fnExprSwapUptoRow : OpenClaim := { program := "ytfjmjlpobbjjdaadoor", sum := "c338448b033092a67c34a88d9a5274923dab42a1c53518ab4ef9b2c9c0a7378e", func := "loop.example/interlinear/laws.FnExprSwap", spec := "fnExprSwap", inPlace := ["internal/bytealg.IndexByteString", "internal/bytealg.IndexString"], unfollowed := true, recurses := true, named := ["loop.example/interlinear/impl.ownWords", "strconv.ErrSyntax", "strconv.ErrRange", "internal/strconv.uint64pow10", "math/bits.deBruijn32tab", "math/bits.deBruijn64tab", "internal/bytealg.MaxLen"], apart := false, laid := [("math/bits.deBruijn32tab", laid_math_bits_deBruijn32tab), ("math/bits.deBruijn64tab", laid_math_bits_deBruijn64tab), ("internal/strconv.uint64pow10", laid_internal_strconv_uint64pow10), ("strconv.ErrRange", laid_strconv_ErrRange), ("strconv.ErrSyntax", laid_strconv_ErrSyntax), ("loop.example/interlinear/impl.ownWords", laid_loop_example_interlinear_impl_ownWords)], narrowed := true }
def FnExprSwapUptoSaid : Prop := fnExprSwapUptoRow.holds Tryd.pinned (OpenSpec.upto fnExprSwapSpec)

/-- 'laws.FnExprType', WHERE WHAT IT READS IS OF BULK AT MOST 1048576: true; the input reads as it did. -/
def fnExprTypeUptoRow : OpenClaim := { program := "ytfjmjlpobbjjdaadoor", sum := "c338448b033092a67c34a88d9a5274923dab42a1c53518ab4ef9b2c9c0a7378e", func := "loop.example/interlinear/laws.FnExprType", spec := "fnExprType", inPlace := ["internal/bytealg.IndexByteString", "internal/bytealg.IndexString"], unfollowed := true, recurses := true, named := ["loop.example/interlinear/impl.ownWords", "strconv.ErrSyntax", "strconv.ErrRange", "internal/strconv.uint64pow10", "math/bits.deBruijn32tab", "math/bits.deBruijn64tab", "internal/bytealg.MaxLen"], apart := false, laid := [("math/bits.deBruijn32tab", laid_math_bits_deBruijn32tab), ("math/bits.deBruijn64tab", laid_math_bits_deBruijn64tab), ("internal/strconv.uint64pow10", laid_internal_strconv_uint64pow10), ("strconv.ErrRange", laid_strconv_ErrRange), ("strconv.ErrSyntax", laid_strconv_ErrSyntax), ("loop.example/interlinear/impl.ownWords", laid_loop_example_interlinear_impl_ownWords)], narrowed := true }
def FnExprTypeUptoSaid : Prop := fnExprTypeUptoRow.holds Tryd.pinned (OpenSpec.upto fnExprTypeSpec)

/-- 'laws.FnExprSame', WHERE WHAT IT READS IS OF BULK AT MOST 1048576: true; the input reads as it did. -/
def fnExprSameUptoRow : OpenClaim := { program := "ytfjmjlpobbjjdaadoor", sum := "c338448b033092a67c34a88d9a5274923dab42a1c53518ab4ef9b2c9c0a7378e", func := "loop.example/interlinear/laws.FnExprSame", spec := "fnExprSame", inPlace := ["internal/bytealg.IndexByteString", "internal/bytealg.IndexString", "internal/abi.NoEscape", "internal/bytealg.MakeNoZero"], unfollowed := true, recurses := true, named := ["loop.example/interlinear/impl.ownWords", "strconv.ErrSyntax", "strconv.ErrRange", "internal/strconv.uint64pow10", "math/bits.deBruijn32tab", "math/bits.deBruijn64tab", "internal/bytealg.MaxLen"], apart := false, laid := [("math/bits.deBruijn32tab", laid_math_bits_deBruijn32tab), ("math/bits.deBruijn64tab", laid_math_bits_deBruijn64tab), ("internal/strconv.uint64pow10", laid_internal_strconv_uint64pow10), ("strconv.ErrRange", laid_strconv_ErrRange), ("strconv.ErrSyntax", laid_strconv_ErrSyntax), ("loop.example/interlinear/impl.ownWords", laid_loop_example_interlinear_impl_ownWords)], narrowed := true }
def FnExprSameUptoSaid : Prop := fnExprSameUptoRow.holds Tryd.pinned (OpenSpec.upto fnExprSameSpec)

/-- 'laws.FnExactExprWords', WHERE WHAT IT READS IS OF BULK AT MOST 1048576: true; the input reads as it did. -/
def fnExactExprWordsUptoRow : OpenClaim := { program := "ytfjmjlpobbjjdaadoor", sum := "c338448b033092a67c34a88d9a5274923dab42a1c53518ab4ef9b2c9c0a7378e", func := "loop.example/interlinear/laws.FnExactExprWords", spec := "fnExactExprWords", inPlace := ["internal/bytealg.IndexByteString", "internal/bytealg.IndexString"], unfollowed := true, recurses := true, named := ["loop.example/interlinear/impl.ownWords", "strconv.ErrSyntax", "strconv.ErrRange", "internal/strconv.uint64pow10", "math/bits.deBruijn32tab", "math/bits.deBruijn64tab", "internal/bytealg.MaxLen"], loops := true, apart := false, laid := [("math/bits.deBruijn32tab", laid_math_bits_deBruijn32tab), ("math/bits.deBruijn64tab", laid_math_bits_deBruijn64tab), ("internal/strconv.uint64pow10", laid_internal_strconv_uint64pow10), ("strconv.ErrRange", laid_strconv_ErrRange), ("strconv.ErrSyntax", laid_strconv_ErrSyntax), ("loop.example/interlinear/impl.ownWords", laid_loop_example_interlinear_impl_ownWords)], narrowed := true }
def FnExactExprWordsUptoSaid : Prop := fnExactExprWordsUptoRow.holds Tryd.pinned (OpenSpec.upto fnExactExprWordsSpec)

end Rows
end Go.Proofs.YtfjmjlpobbjjdaaDoor
