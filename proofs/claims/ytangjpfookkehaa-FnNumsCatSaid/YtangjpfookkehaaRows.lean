/-
  No cell of these rows narrows 'for every input' (looked for: loops, veiled, ifaces, maps, wideKeys, modest, calm, conditions, laid).
  DERIVED. THE GIVEN ROWS OF THIS SEAT. 12 by the template 'for every input the law returns true; each argument reads behind the call as it read before'; 0 by the template 'total and deterministic' (their statements: YtangjpfookkehaaTotals.lean).
  GIVEN WITH THE SEED: the statements are not yours to turn. If you find one false, say at which input.
  Laid BY PROGRAM, IN A SANDBOX (cutbox-rows.mjs): the forced cells as the released guide's own fill.sh prints them over the translation 023dc7d968a4a312… (all of the seat's roots in one cut). By AI agents, Wed Nov 11 2026. No macro, syntax, notation, axiom, sorry.
-/
import Derived.Test.YtangjpfookkehaaChecked
import GoSem.Claim
import GoSem.ClaimJoined
import GoSem.ClaimMapViews
import Derived.JoinedTies
import Derived.KernelRfl
namespace Go.Proofs.Ytangjpfookkehaa
/- THE CELL 'sum', in the pinned program and in every row, IS THE sha256 OF THE DUMP (.gsa) THAT YtangjpfookkehaaProg.lean LOADS. Nothing in Lean hashes anything: it is a label: what it is worth is what the hold of that sum in a sandbox is worth. -/
noncomputable def Try.pinned : Pinned := { name := "ytangjpfookkehaa", sum := "023dc7d968a4a31260bef3f4cad54538481da0f9d6fa4a2123e407c5e45e99f1", checked := Try.checked }
namespace Rows
def none {H : Type} : Left H := { results := [], args := [] }

/-- 'laws.FnExactConstants': WHATEVER THE INPUT: true; the input reads as it did. -/
def fnExactConstantsSpec : ChangeSpec := { name := "fnExactConstants", fn := fun _ => fun
  | [] => { results := [.lit (.bool true)], args := [] }
  | _ => none }
def fnExactConstantsRow : OpenClaim := { program := "ytangjpfookkehaa", sum := "023dc7d968a4a31260bef3f4cad54538481da0f9d6fa4a2123e407c5e45e99f1", func := "loop.example/interlinear/laws.FnExactConstants", spec := "fnExactConstants", apart := false }
def FnExactConstantsSaid : Prop := fnExactConstantsRow.holds Try.pinned (OpenSpec.ofChange fnExactConstantsSpec)

/-- ITS FALSE NEIGHBOUR: 'it returns false'. Refute it at one input. -/
def fnExactConstantsWrong : ChangeSpec := { name := "fnExactConstants", fn := fun _ => fun
  | [] => { results := [.lit (.bool false)], args := [] }
  | _ => none }
def FnExactConstantsWrongFalsely : Prop := fnExactConstantsRow.holds Try.pinned (OpenSpec.ofChange fnExactConstantsWrong)

/-- 'laws.FnExactNumLetter': WHATEVER THE INPUT: true; the input reads as it did. -/
def fnExactNumLetterSpec : ChangeSpec := { name := "fnExactNumLetter", fn := fun _ => fun
  | [d] => { results := [.lit (.bool true)], args := [d] }
  | _ => none }
def fnExactNumLetterRow : OpenClaim := { program := "ytangjpfookkehaa", sum := "023dc7d968a4a31260bef3f4cad54538481da0f9d6fa4a2123e407c5e45e99f1", func := "loop.example/interlinear/laws.FnExactNumLetter", spec := "fnExactNumLetter", apart := false }
def FnExactNumLetterSaid : Prop := fnExactNumLetterRow.holds Try.pinned (OpenSpec.ofChange fnExactNumLetterSpec)

/-- ITS FALSE NEIGHBOUR: 'it returns false'. Refute it at one input. -/
def fnExactNumLetterWrong : ChangeSpec := { name := "fnExactNumLetter", fn := fun _ => fun
  | [d] => { results := [.lit (.bool false)], args := [d] }
  | _ => none }
def FnExactNumLetterWrongFalsely : Prop := fnExactNumLetterRow.holds Try.pinned (OpenSpec.ofChange fnExactNumLetterWrong)

/-- 'laws.FnExactNumText': WHATEVER THE INPUT: true; the input reads as it did. -/
def fnExactNumTextSpec : ChangeSpec := { name := "fnExactNumText", fn := fun _ => fun
  | [d] => { results := [.lit (.bool true)], args := [d] }
  | _ => none }
def fnExactNumTextRow : OpenClaim := { program := "ytangjpfookkehaa", sum := "023dc7d968a4a31260bef3f4cad54538481da0f9d6fa4a2123e407c5e45e99f1", func := "loop.example/interlinear/laws.FnExactNumText", spec := "fnExactNumText", inPlace := ["internal/abi.NoEscape"], recurses := true, apart := false }
def FnExactNumTextSaid : Prop := fnExactNumTextRow.holds Try.pinned (OpenSpec.ofChange fnExactNumTextSpec)

/-- ITS FALSE NEIGHBOUR: 'it returns false'. Refute it at one input. -/
def fnExactNumTextWrong : ChangeSpec := { name := "fnExactNumText", fn := fun _ => fun
  | [d] => { results := [.lit (.bool false)], args := [d] }
  | _ => none }
def FnExactNumTextWrongFalsely : Prop := fnExactNumTextRow.holds Try.pinned (OpenSpec.ofChange fnExactNumTextWrong)

/-- 'laws.FnNumLetter': WHATEVER THE INPUT: true; the input reads as it did. -/
def fnNumLetterSpec : ChangeSpec := { name := "fnNumLetter", fn := fun _ => fun
  | [d] => { results := [.lit (.bool true)], args := [d] }
  | _ => none }
def fnNumLetterRow : OpenClaim := { program := "ytangjpfookkehaa", sum := "023dc7d968a4a31260bef3f4cad54538481da0f9d6fa4a2123e407c5e45e99f1", func := "loop.example/interlinear/laws.FnNumLetter", spec := "fnNumLetter", inPlace := ["internal/abi.NoEscape"], apart := false }
def FnNumLetterSaid : Prop := fnNumLetterRow.holds Try.pinned (OpenSpec.ofChange fnNumLetterSpec)

/-- ITS FALSE NEIGHBOUR: 'it returns false'. Refute it at one input. -/
def fnNumLetterWrong : ChangeSpec := { name := "fnNumLetter", fn := fun _ => fun
  | [d] => { results := [.lit (.bool false)], args := [d] }
  | _ => none }
def FnNumLetterWrongFalsely : Prop := fnNumLetterRow.holds Try.pinned (OpenSpec.ofChange fnNumLetterWrong)

/-- 'laws.FnNumSmall': WHATEVER THE INPUT: true; the input reads as it did. -/
def fnNumSmallSpec : ChangeSpec := { name := "fnNumSmall", fn := fun _ => fun
  | [d] => { results := [.lit (.bool true)], args := [d] }
  | _ => none }
def fnNumSmallRow : OpenClaim := { program := "ytangjpfookkehaa", sum := "023dc7d968a4a31260bef3f4cad54538481da0f9d6fa4a2123e407c5e45e99f1", func := "loop.example/interlinear/laws.FnNumSmall", spec := "fnNumSmall", inPlace := ["internal/abi.NoEscape"], recurses := true, apart := false }
def FnNumSmallSaid : Prop := fnNumSmallRow.holds Try.pinned (OpenSpec.ofChange fnNumSmallSpec)

/-- ITS FALSE NEIGHBOUR: 'it returns false'. Refute it at one input. -/
def fnNumSmallWrong : ChangeSpec := { name := "fnNumSmall", fn := fun _ => fun
  | [d] => { results := [.lit (.bool false)], args := [d] }
  | _ => none }
def FnNumSmallWrongFalsely : Prop := fnNumSmallRow.holds Try.pinned (OpenSpec.ofChange fnNumSmallWrong)

/-- 'laws.FnExactNumsText': WHATEVER THE INPUT: true; the input reads as it did. -/
def fnExactNumsTextSpec : ChangeSpec := { name := "fnExactNumsText", fn := fun _ => fun
  | [d] => { results := [.lit (.bool true)], args := [d] }
  | _ => none }
def fnExactNumsTextRow : OpenClaim := { program := "ytangjpfookkehaa", sum := "023dc7d968a4a31260bef3f4cad54538481da0f9d6fa4a2123e407c5e45e99f1", func := "loop.example/interlinear/laws.FnExactNumsText", spec := "fnExactNumsText", inPlace := ["internal/abi.NoEscape"], recurses := true, apart := false }
def FnExactNumsTextSaid : Prop := fnExactNumsTextRow.holds Try.pinned (OpenSpec.ofChange fnExactNumsTextSpec)

/-- ITS FALSE NEIGHBOUR: 'it returns false'. Refute it at one input. -/
def fnExactNumsTextWrong : ChangeSpec := { name := "fnExactNumsText", fn := fun _ => fun
  | [d] => { results := [.lit (.bool false)], args := [d] }
  | _ => none }
def FnExactNumsTextWrongFalsely : Prop := fnExactNumsTextRow.holds Try.pinned (OpenSpec.ofChange fnExactNumsTextWrong)

/-- 'laws.FnNumAll': WHATEVER THE INPUT: true; the input reads as it did. -/
def fnNumAllSpec : ChangeSpec := { name := "fnNumAll", fn := fun _ => fun
  | [d1, d2] => { results := [.lit (.bool true)], args := [d1, d2] }
  | _ => none }
def fnNumAllRow : OpenClaim := { program := "ytangjpfookkehaa", sum := "023dc7d968a4a31260bef3f4cad54538481da0f9d6fa4a2123e407c5e45e99f1", func := "loop.example/interlinear/laws.FnNumAll", spec := "fnNumAll", inPlace := ["internal/abi.NoEscape", "internal/bytealg.IndexByteString"], recurses := true, apart := false }
def FnNumAllSaid : Prop := fnNumAllRow.holds Try.pinned (OpenSpec.ofChange fnNumAllSpec)

/-- ITS FALSE NEIGHBOUR: 'it returns false'. Refute it at one input. -/
def fnNumAllWrong : ChangeSpec := { name := "fnNumAll", fn := fun _ => fun
  | [d1, d2] => { results := [.lit (.bool false)], args := [d1, d2] }
  | _ => none }
def FnNumAllWrongFalsely : Prop := fnNumAllRow.holds Try.pinned (OpenSpec.ofChange fnNumAllWrong)

/-- 'laws.FnExactNumRead': WHATEVER THE INPUT: true; the input reads as it did. -/
def fnExactNumReadSpec : ChangeSpec := { name := "fnExactNumRead", fn := fun _ => fun
  | [d1, d2] => { results := [.lit (.bool true)], args := [d1, d2] }
  | _ => none }
def fnExactNumReadRow : OpenClaim := { program := "ytangjpfookkehaa", sum := "023dc7d968a4a31260bef3f4cad54538481da0f9d6fa4a2123e407c5e45e99f1", func := "loop.example/interlinear/laws.FnExactNumRead", spec := "fnExactNumRead", inPlace := ["internal/bytealg.IndexByteString", "internal/abi.NoEscape"], recurses := true, apart := false }
def FnExactNumReadSaid : Prop := fnExactNumReadRow.holds Try.pinned (OpenSpec.ofChange fnExactNumReadSpec)

/-- ITS FALSE NEIGHBOUR: 'it returns false'. Refute it at one input. -/
def fnExactNumReadWrong : ChangeSpec := { name := "fnExactNumRead", fn := fun _ => fun
  | [d1, d2] => { results := [.lit (.bool false)], args := [d1, d2] }
  | _ => none }
def FnExactNumReadWrongFalsely : Prop := fnExactNumReadRow.holds Try.pinned (OpenSpec.ofChange fnExactNumReadWrong)

/-- 'laws.FnNumsCat': WHATEVER THE INPUT: true; the input reads as it did. -/
def fnNumsCatSpec : ChangeSpec := { name := "fnNumsCat", fn := fun _ => fun
  | [d1, d2] => { results := [.lit (.bool true)], args := [d1, d2] }
  | _ => none }
def fnNumsCatRow : OpenClaim := { program := "ytangjpfookkehaa", sum := "023dc7d968a4a31260bef3f4cad54538481da0f9d6fa4a2123e407c5e45e99f1", func := "loop.example/interlinear/laws.FnNumsCat", spec := "fnNumsCat", inPlace := ["internal/abi.NoEscape", "internal/bytealg.IndexByteString"], recurses := true, apart := false }
def FnNumsCatSaid : Prop := fnNumsCatRow.holds Try.pinned (OpenSpec.ofChange fnNumsCatSpec)

/-- ITS FALSE NEIGHBOUR: 'it returns false'. Refute it at one input. -/
def fnNumsCatWrong : ChangeSpec := { name := "fnNumsCat", fn := fun _ => fun
  | [d1, d2] => { results := [.lit (.bool false)], args := [d1, d2] }
  | _ => none }
def FnNumsCatWrongFalsely : Prop := fnNumsCatRow.holds Try.pinned (OpenSpec.ofChange fnNumsCatWrong)

/-- 'laws.FnNum': WHATEVER THE INPUT: true; the input reads as it did. -/
def fnNumSpec : ChangeSpec := { name := "fnNum", fn := fun _ => fun
  | [d1, d2] => { results := [.lit (.bool true)], args := [d1, d2] }
  | _ => none }
def fnNumRow : OpenClaim := { program := "ytangjpfookkehaa", sum := "023dc7d968a4a31260bef3f4cad54538481da0f9d6fa4a2123e407c5e45e99f1", func := "loop.example/interlinear/laws.FnNum", spec := "fnNum", inPlace := ["internal/abi.NoEscape", "internal/bytealg.IndexByteString"], recurses := true, apart := false }
def FnNumSaid : Prop := fnNumRow.holds Try.pinned (OpenSpec.ofChange fnNumSpec)

/-- ITS FALSE NEIGHBOUR: 'it returns false'. Refute it at one input. -/
def fnNumWrong : ChangeSpec := { name := "fnNum", fn := fun _ => fun
  | [d1, d2] => { results := [.lit (.bool false)], args := [d1, d2] }
  | _ => none }
def FnNumWrongFalsely : Prop := fnNumRow.holds Try.pinned (OpenSpec.ofChange fnNumWrong)

/-- 'laws.FnExactNumsRead': WHATEVER THE INPUT: true; the input reads as it did. -/
def fnExactNumsReadSpec : ChangeSpec := { name := "fnExactNumsRead", fn := fun _ => fun
  | [d] => { results := [.lit (.bool true)], args := [d] }
  | _ => none }
def fnExactNumsReadRow : OpenClaim := { program := "ytangjpfookkehaa", sum := "023dc7d968a4a31260bef3f4cad54538481da0f9d6fa4a2123e407c5e45e99f1", func := "loop.example/interlinear/laws.FnExactNumsRead", spec := "fnExactNumsRead", inPlace := ["internal/bytealg.IndexByteString", "internal/abi.NoEscape"], recurses := true, apart := false }
def FnExactNumsReadSaid : Prop := fnExactNumsReadRow.holds Try.pinned (OpenSpec.ofChange fnExactNumsReadSpec)

/-- ITS FALSE NEIGHBOUR: 'it returns false'. Refute it at one input. -/
def fnExactNumsReadWrong : ChangeSpec := { name := "fnExactNumsRead", fn := fun _ => fun
  | [d] => { results := [.lit (.bool false)], args := [d] }
  | _ => none }
def FnExactNumsReadWrongFalsely : Prop := fnExactNumsReadRow.holds Try.pinned (OpenSpec.ofChange fnExactNumsReadWrong)

/-- 'laws.FnNums': WHATEVER THE INPUT: true; the input reads as it did. -/
def fnNumsSpec : ChangeSpec := { name := "fnNums", fn := fun _ => fun
  | [d1, d2] => { results := [.lit (.bool true)], args := [d1, d2] }
  | _ => none }
def fnNumsRow : OpenClaim := { program := "ytangjpfookkehaa", sum := "023dc7d968a4a31260bef3f4cad54538481da0f9d6fa4a2123e407c5e45e99f1", func := "loop.example/interlinear/laws.FnNums", spec := "fnNums", inPlace := ["internal/abi.NoEscape", "internal/bytealg.IndexByteString"], recurses := true, apart := false }
def FnNumsSaid : Prop := fnNumsRow.holds Try.pinned (OpenSpec.ofChange fnNumsSpec)

/-- ITS FALSE NEIGHBOUR: 'it returns false'. Refute it at one input. -/
def fnNumsWrong : ChangeSpec := { name := "fnNums", fn := fun _ => fun
  | [d1, d2] => { results := [.lit (.bool false)], args := [d1, d2] }
  | _ => none }
def FnNumsWrongFalsely : Prop := fnNumsRow.holds Try.pinned (OpenSpec.ofChange fnNumsWrong)

/- THE SECOND FORM. 'bulk': how many values and letters a reading holds, each counted each time it is reached (what is shared counts as often as it is met; a slice's spare places count too). A statement '..UptoSaid' is the law's where the arguments, and the package variables that the reading takes, are together of bulk at most 1048576: NARROWER than '..Said'. Prove '..Said' where nothing that the law and all that it calls make is longer than what came in: it says more and counts as full. Else prove '..UptoSaid'. A law counts once. -/
mutual
def uptoBulk {H : Type} : DataW H → Nat
  | .lit (.string bytes) => bytes.length + 1
  | .lit _ => 1
  | .nil => 1
  | .ptr d => uptoBulk d + 1
  | .slice elems spare => uptoBulkAll elems + uptoBulkAll spare + 1
  | .agg parts => uptoBulkAll parts + 1
  | .iface _ d => uptoBulk d + 1
  | .map entries => uptoBulkEntries entries + 1
  | .held _ => 1
def uptoBulkAll {H : Type} : List (DataW H) → Nat
  | [] => 0
  | d :: r => uptoBulk d + uptoBulkAll r
def uptoBulkEntries {H : Type} : List (Lit × DataW H) → Nat
  | [] => 0
  | x :: r => uptoBulkEntry x + uptoBulkEntries r
def uptoBulkEntry {H : Type} : Lit × DataW H → Nat
  | (.string bytes, d) => bytes.length + uptoBulk d + 1
  | (_, d) => uptoBulk d + 1
 end
def uptoSmall : (H : Type) → List (DataW H) → Bool := fun _ ds => decide (uptoBulkAll ds ≤ 1048576)
def OpenSpec.upto (s : _root_.Go.ChangeSpec) : _root_.Go.OpenSpec := { _root_.Go.OpenSpec.ofChange s with cond := some uptoSmall }

/-- 'laws.FnExactConstants', WHERE WHAT IT READS IS OF BULK AT MOST 1048576: true; the input reads as it did. -/
def fnExactConstantsUptoRow : OpenClaim := { program := "ytangjpfookkehaa", sum := "023dc7d968a4a31260bef3f4cad54538481da0f9d6fa4a2123e407c5e45e99f1", func := "loop.example/interlinear/laws.FnExactConstants", spec := "fnExactConstants", apart := false, narrowed := true }
def FnExactConstantsUptoSaid : Prop := fnExactConstantsUptoRow.holds Try.pinned (OpenSpec.upto fnExactConstantsSpec)

/-- 'laws.FnExactNumLetter', WHERE WHAT IT READS IS OF BULK AT MOST 1048576: true; the input reads as it did. -/
def fnExactNumLetterUptoRow : OpenClaim := { program := "ytangjpfookkehaa", sum := "023dc7d968a4a31260bef3f4cad54538481da0f9d6fa4a2123e407c5e45e99f1", func := "loop.example/interlinear/laws.FnExactNumLetter", spec := "fnExactNumLetter", apart := false, narrowed := true }
def FnExactNumLetterUptoSaid : Prop := fnExactNumLetterUptoRow.holds Try.pinned (OpenSpec.upto fnExactNumLetterSpec)

/-- 'laws.FnExactNumText', WHERE WHAT IT READS IS OF BULK AT MOST 1048576: true; the input reads as it did. -/
def fnExactNumTextUptoRow : OpenClaim := { program := "ytangjpfookkehaa", sum := "023dc7d968a4a31260bef3f4cad54538481da0f9d6fa4a2123e407c5e45e99f1", func := "loop.example/interlinear/laws.FnExactNumText", spec := "fnExactNumText", inPlace := ["internal/abi.NoEscape"], recurses := true, apart := false, narrowed := true }
def FnExactNumTextUptoSaid : Prop := fnExactNumTextUptoRow.holds Try.pinned (OpenSpec.upto fnExactNumTextSpec)

/-- 'laws.FnNumLetter', WHERE WHAT IT READS IS OF BULK AT MOST 1048576: true; the input reads as it did. -/
def fnNumLetterUptoRow : OpenClaim := { program := "ytangjpfookkehaa", sum := "023dc7d968a4a31260bef3f4cad54538481da0f9d6fa4a2123e407c5e45e99f1", func := "loop.example/interlinear/laws.FnNumLetter", spec := "fnNumLetter", inPlace := ["internal/abi.NoEscape"], apart := false, narrowed := true }
def FnNumLetterUptoSaid : Prop := fnNumLetterUptoRow.holds Try.pinned (OpenSpec.upto fnNumLetterSpec)

/-- 'laws.FnNumSmall', WHERE WHAT IT READS IS OF BULK AT MOST 1048576: true; the input reads as it did. -/
def fnNumSmallUptoRow : OpenClaim := { program := "ytangjpfookkehaa", sum := "023dc7d968a4a31260bef3f4cad54538481da0f9d6fa4a2123e407c5e45e99f1", func := "loop.example/interlinear/laws.FnNumSmall", spec := "fnNumSmall", inPlace := ["internal/abi.NoEscape"], recurses := true, apart := false, narrowed := true }
def FnNumSmallUptoSaid : Prop := fnNumSmallUptoRow.holds Try.pinned (OpenSpec.upto fnNumSmallSpec)

/-- 'laws.FnExactNumsText', WHERE WHAT IT READS IS OF BULK AT MOST 1048576: true; the input reads as it did. -/
def fnExactNumsTextUptoRow : OpenClaim := { program := "ytangjpfookkehaa", sum := "023dc7d968a4a31260bef3f4cad54538481da0f9d6fa4a2123e407c5e45e99f1", func := "loop.example/interlinear/laws.FnExactNumsText", spec := "fnExactNumsText", inPlace := ["internal/abi.NoEscape"], recurses := true, apart := false, narrowed := true }
def FnExactNumsTextUptoSaid : Prop := fnExactNumsTextUptoRow.holds Try.pinned (OpenSpec.upto fnExactNumsTextSpec)

/-- 'laws.FnNumAll', WHERE WHAT IT READS IS OF BULK AT MOST 1048576: true; the input reads as it did. -/
def fnNumAllUptoRow : OpenClaim := { program := "ytangjpfookkehaa", sum := "023dc7d968a4a31260bef3f4cad54538481da0f9d6fa4a2123e407c5e45e99f1", func := "loop.example/interlinear/laws.FnNumAll", spec := "fnNumAll", inPlace := ["internal/abi.NoEscape", "internal/bytealg.IndexByteString"], recurses := true, apart := false, narrowed := true }
def FnNumAllUptoSaid : Prop := fnNumAllUptoRow.holds Try.pinned (OpenSpec.upto fnNumAllSpec)

/-- 'laws.FnExactNumRead', WHERE WHAT IT READS IS OF BULK AT MOST 1048576: true; the input reads as it did. -/
def fnExactNumReadUptoRow : OpenClaim := { program := "ytangjpfookkehaa", sum := "023dc7d968a4a31260bef3f4cad54538481da0f9d6fa4a2123e407c5e45e99f1", func := "loop.example/interlinear/laws.FnExactNumRead", spec := "fnExactNumRead", inPlace := ["internal/bytealg.IndexByteString", "internal/abi.NoEscape"], recurses := true, apart := false, narrowed := true }
def FnExactNumReadUptoSaid : Prop := fnExactNumReadUptoRow.holds Try.pinned (OpenSpec.upto fnExactNumReadSpec)

/-- 'laws.FnNumsCat', WHERE WHAT IT READS IS OF BULK AT MOST 1048576: true; the input reads as it did. -/
def fnNumsCatUptoRow : OpenClaim := { program := "ytangjpfookkehaa", sum := "023dc7d968a4a31260bef3f4cad54538481da0f9d6fa4a2123e407c5e45e99f1", func := "loop.example/interlinear/laws.FnNumsCat", spec := "fnNumsCat", inPlace := ["internal/abi.NoEscape", "internal/bytealg.IndexByteString"], recurses := true, apart := false, narrowed := true }
def FnNumsCatUptoSaid : Prop := fnNumsCatUptoRow.holds Try.pinned (OpenSpec.upto fnNumsCatSpec)

/-- 'laws.FnNum', WHERE WHAT IT READS IS OF BULK AT MOST 1048576: true; the input reads as it did. -/
def fnNumUptoRow : OpenClaim := { program := "ytangjpfookkehaa", sum := "023dc7d968a4a31260bef3f4cad54538481da0f9d6fa4a2123e407c5e45e99f1", func := "loop.example/interlinear/laws.FnNum", spec := "fnNum", inPlace := ["internal/abi.NoEscape", "internal/bytealg.IndexByteString"], recurses := true, apart := false, narrowed := true }
def FnNumUptoSaid : Prop := fnNumUptoRow.holds Try.pinned (OpenSpec.upto fnNumSpec)

/-- 'laws.FnExactNumsRead', WHERE WHAT IT READS IS OF BULK AT MOST 1048576: true; the input reads as it did. -/
def fnExactNumsReadUptoRow : OpenClaim := { program := "ytangjpfookkehaa", sum := "023dc7d968a4a31260bef3f4cad54538481da0f9d6fa4a2123e407c5e45e99f1", func := "loop.example/interlinear/laws.FnExactNumsRead", spec := "fnExactNumsRead", inPlace := ["internal/bytealg.IndexByteString", "internal/abi.NoEscape"], recurses := true, apart := false, narrowed := true }
def FnExactNumsReadUptoSaid : Prop := fnExactNumsReadUptoRow.holds Try.pinned (OpenSpec.upto fnExactNumsReadSpec)

/-- 'laws.FnNums', WHERE WHAT IT READS IS OF BULK AT MOST 1048576: true; the input reads as it did. -/
def fnNumsUptoRow : OpenClaim := { program := "ytangjpfookkehaa", sum := "023dc7d968a4a31260bef3f4cad54538481da0f9d6fa4a2123e407c5e45e99f1", func := "loop.example/interlinear/laws.FnNums", spec := "fnNums", inPlace := ["internal/abi.NoEscape", "internal/bytealg.IndexByteString"], recurses := true, apart := false, narrowed := true }
def FnNumsUptoSaid : Prop := fnNumsUptoRow.holds Try.pinned (OpenSpec.upto fnNumsSpec)

end Rows
end Go.Proofs.Ytangjpfookkehaa
