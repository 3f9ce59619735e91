/-
  NARROWER THAN 'FOR EVERY INPUT', by the rows' own cells (each row's printed sentence says how): FnPosLess: laid · FnExactPosOff: laid · FnExactTextLines: laid · FnTextCat: laid · FnPosAll: laid · FnPos: laid · FnPosOff: laid · FnText: laid.
  DERIVED. THE GIVEN ROWS OF THIS SEAT. 8 by the template 'for every input the law returns true; each argument reads behind the call as it read before'; 0 by the template 'total and deterministic' (their statements: YtdimljolinmofaaDoorTotals.lean).
  GIVEN WITH THE SEED: the statements are not yours to turn. If you find one false, say at which input.
  Laid BY PROGRAM, IN A SANDBOX (cutbox-rows.mjs): the forced cells as the released guide's own fill.sh prints them over the translation 8c4b75bcb4ad194e… (all of the seat's roots in one cut). By AI agents, Wed Nov 11 2026. No macro, syntax, notation, axiom, sorry.
-/
import Derived.Test.YtdimljolinmofaaDoorChecked
import GoSem.PinnedTables
import GoSem.Claim
import GoSem.ClaimJoined
import GoSem.ClaimMapViews
import Derived.JoinedTies
import Derived.KernelRfl
namespace Go.Proofs.YtdimljolinmofaaDoor
/- THE CELL 'sum', in the pinned program and in every row, IS THE sha256 OF THE DUMP (.gsa) THAT YtdimljolinmofaaDoorProg.lean LOADS. Nothing in Lean hashes anything: it is a label: what it is worth is what the hold of that sum in a sandbox is worth. -/
noncomputable def Tryd.pinned : Pinned := { name := "ytdimljolinmofaadoor", sum := "8c4b75bcb4ad194e6a4905f980138bcc84fddc82f74bb58c16827d7747713ef4", checked := Tryd.checked }
namespace Rows
def none {H : Type} : Left H := { results := [], args := [] }

/- WHAT THE LISTED PACKAGE-LEVEL VARIABLES READ AS WHEN THE CALL BEGINS. Each datum BY PROGRAM (the guide's laid-datum.mjs) off the statement by which the dump's own 'gosem.cut.vars' lays the variable. In a bare row this is a premise. The card (YtdimljolinmofaaDoorCards.lean) ties it to the program's text. -/
def laid_unicode_utf8_acceptRanges {H : Type} : DataW H := .agg [.agg [.lit (.int .u8 128), .lit (.int .u8 191)], .agg [.lit (.int .u8 160), .lit (.int .u8 191)], .agg [.lit (.int .u8 128), .lit (.int .u8 159)], .agg [.lit (.int .u8 144), .lit (.int .u8 191)], .agg [.lit (.int .u8 128), .lit (.int .u8 143)], .agg [.lit (.int .u8 0), .lit (.int .u8 0)], .agg [.lit (.int .u8 0), .lit (.int .u8 0)], .agg [.lit (.int .u8 0), .lit (.int .u8 0)], .agg [.lit (.int .u8 0), .lit (.int .u8 0)], .agg [.lit (.int .u8 0), .lit (.int .u8 0)], .agg [.lit (.int .u8 0), .lit (.int .u8 0)], .agg [.lit (.int .u8 0), .lit (.int .u8 0)], .agg [.lit (.int .u8 0), .lit (.int .u8 0)], .agg [.lit (.int .u8 0), .lit (.int .u8 0)], .agg [.lit (.int .u8 0), .lit (.int .u8 0)], .agg [.lit (.int .u8 0), .lit (.int .u8 0)]]
/-- One of Go's own tables, pinned by name: the form's constant. -/
def laid_unicode_utf8_first : DataW Unit := Go.Pinned.utf8First

/-- 'laws.FnPosLess': WHATEVER THE INPUT: true; the input reads as it did. -/
def fnPosLessSpec : ChangeSpec := { name := "fnPosLess", fn := fun _ => fun
  | [d1, d2] => { results := [.lit (.bool true)], args := [d1, d2] }
  | _ => none }
def fnPosLessRow : OpenClaim := { program := "ytdimljolinmofaadoor", sum := "8c4b75bcb4ad194e6a4905f980138bcc84fddc82f74bb58c16827d7747713ef4", func := "loop.example/interlinear/laws.FnPosLess", spec := "fnPosLess", inPlace := ["internal/bytealg.CountString", "internal/bytealg.IndexByteString", "internal/bytealg.IndexString"], named := ["unicode/utf8.first", "unicode/utf8.acceptRanges", "internal/bytealg.MaxLen"], apart := false, laid := [("unicode/utf8.acceptRanges", laid_unicode_utf8_acceptRanges), ("unicode/utf8.first", laid_unicode_utf8_first)] }
def FnPosLessSaid : Prop := fnPosLessRow.holds Tryd.pinned (OpenSpec.ofChange fnPosLessSpec)

/-- ITS FALSE NEIGHBOUR: 'it returns false'. Refute it at one input. -/
def fnPosLessWrong : ChangeSpec := { name := "fnPosLess", fn := fun _ => fun
  | [d1, d2] => { results := [.lit (.bool false)], args := [d1, d2] }
  | _ => none }
def FnPosLessWrongFalsely : Prop := fnPosLessRow.holds Tryd.pinned (OpenSpec.ofChange fnPosLessWrong)

/-- 'laws.FnExactPosOff': WHATEVER THE INPUT: true; the input reads as it did. -/
def fnExactPosOffSpec : ChangeSpec := { name := "fnExactPosOff", fn := fun _ => fun
  | [d1, d2] => { results := [.lit (.bool true)], args := [d1, d2] }
  | _ => none }
def fnExactPosOffRow : OpenClaim := { program := "ytdimljolinmofaadoor", sum := "8c4b75bcb4ad194e6a4905f980138bcc84fddc82f74bb58c16827d7747713ef4", func := "loop.example/interlinear/laws.FnExactPosOff", spec := "fnExactPosOff", inPlace := ["internal/bytealg.CountString", "internal/bytealg.IndexByteString", "internal/bytealg.IndexString"], named := ["unicode/utf8.first", "unicode/utf8.acceptRanges", "internal/bytealg.MaxLen"], apart := false, laid := [("unicode/utf8.acceptRanges", laid_unicode_utf8_acceptRanges), ("unicode/utf8.first", laid_unicode_utf8_first)] }
def FnExactPosOffSaid : Prop := fnExactPosOffRow.holds Tryd.pinned (OpenSpec.ofChange fnExactPosOffSpec)

/-- ITS FALSE NEIGHBOUR: 'it returns false'. Refute it at one input. -/
def fnExactPosOffWrong : ChangeSpec := { name := "fnExactPosOff", fn := fun _ => fun
  | [d1, d2] => { results := [.lit (.bool false)], args := [d1, d2] }
  | _ => none }
def FnExactPosOffWrongFalsely : Prop := fnExactPosOffRow.holds Tryd.pinned (OpenSpec.ofChange fnExactPosOffWrong)

/-- 'laws.FnExactTextLines': WHATEVER THE INPUT: true; the input reads as it did. -/
def fnExactTextLinesSpec : ChangeSpec := { name := "fnExactTextLines", fn := fun _ => fun
  | [d] => { results := [.lit (.bool true)], args := [d] }
  | _ => none }
def fnExactTextLinesRow : OpenClaim := { program := "ytdimljolinmofaadoor", sum := "8c4b75bcb4ad194e6a4905f980138bcc84fddc82f74bb58c16827d7747713ef4", func := "loop.example/interlinear/laws.FnExactTextLines", spec := "fnExactTextLines", inPlace := ["internal/bytealg.CountString", "internal/bytealg.IndexByteString", "internal/bytealg.IndexString"], named := ["unicode/utf8.first", "unicode/utf8.acceptRanges", "internal/bytealg.MaxLen"], apart := false, laid := [("unicode/utf8.acceptRanges", laid_unicode_utf8_acceptRanges), ("unicode/utf8.first", laid_unicode_utf8_first)] }
def FnExactTextLinesSaid : Prop := fnExactTextLinesRow.holds Tryd.pinned (OpenSpec.ofChange fnExactTextLinesSpec)

/-- ITS FALSE NEIGHBOUR: 'it returns false'. Refute it at one input. -/
def fnExactTextLinesWrong : ChangeSpec := { name := "fnExactTextLines", fn := fun _ => fun
  | [d] => { results := [.lit (.bool false)], args := [d] }
  | _ => none }
def FnExactTextLinesWrongFalsely : Prop := fnExactTextLinesRow.holds Tryd.pinned (OpenSpec.ofChange fnExactTextLinesWrong)

/-- 'laws.FnTextCat': WHATEVER THE INPUT: true; the input reads as it did. -/
def fnTextCatSpec : ChangeSpec := { name := "fnTextCat", fn := fun _ => fun
  | [d1, d2] => { results := [.lit (.bool true)], args := [d1, d2] }
  | _ => none }
def fnTextCatRow : OpenClaim := { program := "ytdimljolinmofaadoor", sum := "8c4b75bcb4ad194e6a4905f980138bcc84fddc82f74bb58c16827d7747713ef4", func := "loop.example/interlinear/laws.FnTextCat", spec := "fnTextCat", inPlace := ["internal/bytealg.CountString", "internal/bytealg.IndexByteString", "internal/bytealg.IndexString"], named := ["unicode/utf8.first", "unicode/utf8.acceptRanges", "internal/bytealg.MaxLen"], apart := false, laid := [("unicode/utf8.acceptRanges", laid_unicode_utf8_acceptRanges), ("unicode/utf8.first", laid_unicode_utf8_first)] }
def FnTextCatSaid : Prop := fnTextCatRow.holds Tryd.pinned (OpenSpec.ofChange fnTextCatSpec)

/-- ITS FALSE NEIGHBOUR: 'it returns false'. Refute it at one input. -/
def fnTextCatWrong : ChangeSpec := { name := "fnTextCat", fn := fun _ => fun
  | [d1, d2] => { results := [.lit (.bool false)], args := [d1, d2] }
  | _ => none }
def FnTextCatWrongFalsely : Prop := fnTextCatRow.holds Tryd.pinned (OpenSpec.ofChange fnTextCatWrong)

/-- 'laws.FnPosAll': WHATEVER THE INPUT: true; the input reads as it did. -/
def fnPosAllSpec : ChangeSpec := { name := "fnPosAll", fn := fun _ => fun
  | [d] => { results := [.lit (.bool true)], args := [d] }
  | _ => none }
def fnPosAllRow : OpenClaim := { program := "ytdimljolinmofaadoor", sum := "8c4b75bcb4ad194e6a4905f980138bcc84fddc82f74bb58c16827d7747713ef4", func := "loop.example/interlinear/laws.FnPosAll", spec := "fnPosAll", inPlace := ["internal/bytealg.CountString", "internal/bytealg.IndexByteString", "internal/bytealg.IndexString"], named := ["unicode/utf8.first", "unicode/utf8.acceptRanges", "internal/bytealg.MaxLen"], apart := false, laid := [("unicode/utf8.acceptRanges", laid_unicode_utf8_acceptRanges), ("unicode/utf8.first", laid_unicode_utf8_first)] }
def FnPosAllSaid : Prop := fnPosAllRow.holds Tryd.pinned (OpenSpec.ofChange fnPosAllSpec)

/-- ITS FALSE NEIGHBOUR: 'it returns false'. Refute it at one input. -/
def fnPosAllWrong : ChangeSpec := { name := "fnPosAll", fn := fun _ => fun
  | [d] => { results := [.lit (.bool false)], args := [d] }
  | _ => none }
def FnPosAllWrongFalsely : Prop := fnPosAllRow.holds Tryd.pinned (OpenSpec.ofChange fnPosAllWrong)

/-- 'laws.FnPos': WHATEVER THE INPUT: true; the input reads as it did. -/
def fnPosSpec : ChangeSpec := { name := "fnPos", fn := fun _ => fun
  | [d] => { results := [.lit (.bool true)], args := [d] }
  | _ => none }
def fnPosRow : OpenClaim := { program := "ytdimljolinmofaadoor", sum := "8c4b75bcb4ad194e6a4905f980138bcc84fddc82f74bb58c16827d7747713ef4", func := "loop.example/interlinear/laws.FnPos", spec := "fnPos", inPlace := ["internal/bytealg.CountString", "internal/bytealg.IndexByteString", "internal/bytealg.IndexString"], named := ["internal/bytealg.MaxLen", "unicode/utf8.first", "unicode/utf8.acceptRanges"], apart := false, laid := [("unicode/utf8.acceptRanges", laid_unicode_utf8_acceptRanges), ("unicode/utf8.first", laid_unicode_utf8_first)] }
def FnPosSaid : Prop := fnPosRow.holds Tryd.pinned (OpenSpec.ofChange fnPosSpec)

/-- ITS FALSE NEIGHBOUR: 'it returns false'. Refute it at one input. -/
def fnPosWrong : ChangeSpec := { name := "fnPos", fn := fun _ => fun
  | [d] => { results := [.lit (.bool false)], args := [d] }
  | _ => none }
def FnPosWrongFalsely : Prop := fnPosRow.holds Tryd.pinned (OpenSpec.ofChange fnPosWrong)

/-- 'laws.FnPosOff': WHATEVER THE INPUT: true; the input reads as it did. -/
def fnPosOffSpec : ChangeSpec := { name := "fnPosOff", fn := fun _ => fun
  | [d] => { results := [.lit (.bool true)], args := [d] }
  | _ => none }
def fnPosOffRow : OpenClaim := { program := "ytdimljolinmofaadoor", sum := "8c4b75bcb4ad194e6a4905f980138bcc84fddc82f74bb58c16827d7747713ef4", func := "loop.example/interlinear/laws.FnPosOff", spec := "fnPosOff", inPlace := ["internal/bytealg.CountString", "internal/bytealg.IndexByteString", "internal/bytealg.IndexString"], named := ["unicode/utf8.first", "unicode/utf8.acceptRanges", "internal/bytealg.MaxLen"], apart := false, laid := [("unicode/utf8.acceptRanges", laid_unicode_utf8_acceptRanges), ("unicode/utf8.first", laid_unicode_utf8_first)] }
def FnPosOffSaid : Prop := fnPosOffRow.holds Tryd.pinned (OpenSpec.ofChange fnPosOffSpec)

/-- ITS FALSE NEIGHBOUR: 'it returns false'. Refute it at one input. -/
def fnPosOffWrong : ChangeSpec := { name := "fnPosOff", fn := fun _ => fun
  | [d] => { results := [.lit (.bool false)], args := [d] }
  | _ => none }
def FnPosOffWrongFalsely : Prop := fnPosOffRow.holds Tryd.pinned (OpenSpec.ofChange fnPosOffWrong)

/-- 'laws.FnText': WHATEVER THE INPUT: true; the input reads as it did. -/
def fnTextSpec : ChangeSpec := { name := "fnText", fn := fun _ => fun
  | [d1, d2] => { results := [.lit (.bool true)], args := [d1, d2] }
  | _ => none }
def fnTextRow : OpenClaim := { program := "ytdimljolinmofaadoor", sum := "8c4b75bcb4ad194e6a4905f980138bcc84fddc82f74bb58c16827d7747713ef4", func := "loop.example/interlinear/laws.FnText", spec := "fnText", inPlace := ["internal/bytealg.CountString", "internal/bytealg.IndexByteString", "internal/bytealg.IndexString", "internal/abi.NoEscape", "internal/bytealg.MakeNoZero"], named := ["unicode/utf8.first", "unicode/utf8.acceptRanges", "internal/bytealg.MaxLen"], apart := false, laid := [("unicode/utf8.acceptRanges", laid_unicode_utf8_acceptRanges), ("unicode/utf8.first", laid_unicode_utf8_first)] }
def FnTextSaid : Prop := fnTextRow.holds Tryd.pinned (OpenSpec.ofChange fnTextSpec)

/-- ITS FALSE NEIGHBOUR: 'it returns false'. Refute it at one input. -/
def fnTextWrong : ChangeSpec := { name := "fnText", fn := fun _ => fun
  | [d1, d2] => { results := [.lit (.bool false)], args := [d1, d2] }
  | _ => none }
def FnTextWrongFalsely : Prop := fnTextRow.holds Tryd.pinned (OpenSpec.ofChange fnTextWrong)

/- THE SECOND FORM. 'bulk': how many values and letters a reading holds, each counted each time it is reached (what is shared counts as often as it is met; a slice's spare places count too). A statement '..UptoSaid' is the law's where the arguments, and the package variables that the reading takes, are together of bulk at most 1048576: NARROWER than '..Said'. Prove '..Said' where nothing that the law and all that it calls make is longer than what came in: it says more and counts as full. Else prove '..UptoSaid'. A law counts once. -/
mutual
def uptoBulk {H : Type} : DataW H → Nat
  | .lit (.string bytes) => bytes.length + 1
  | .lit _ => 1
  | .nil => 1
  | .ptr d => uptoBulk d + 1
  | .slice elems spare => uptoBulkAll elems + uptoBulkAll spare + 1
  | .agg parts => uptoBulkAll parts + 1
  | .iface _ d => uptoBulk d + 1
  | .map entries => uptoBulkEntries entries + 1
  | .held _ => 1
def uptoBulkAll {H : Type} : List (DataW H) → Nat
  | [] => 0
  | d :: r => uptoBulk d + uptoBulkAll r
def uptoBulkEntries {H : Type} : List (Lit × DataW H) → Nat
  | [] => 0
  | x :: r => uptoBulkEntry x + uptoBulkEntries r
def uptoBulkEntry {H : Type} : Lit × DataW H → Nat
  | (.string bytes, d) => bytes.length + uptoBulk d + 1
  | (_, d) => uptoBulk d + 1
 end
def uptoSmall : (H : Type) → List (DataW H) → Bool := fun _ ds => decide (uptoBulkAll ds ≤ 1048576)
def OpenSpec.upto (s : _root_.Go.ChangeSpec) : _root_.Go.OpenSpec := { _root_.Go.OpenSpec.ofChange s with cond := some uptoSmall }

/-- 'laws.FnPosLess', WHERE WHAT IT READS IS OF BULK AT MOST 1048576: true; the input reads as it did. -/
def fnPosLessUptoRow : OpenClaim := { program := "ytdimljolinmofaadoor", sum := "8c4b75bcb4ad194e6a4905f980138bcc84fddc82f74bb58c16827d7747713ef4", func := "loop.example/interlinear/laws.FnPosLess", spec := "fnPosLess", inPlace := ["internal/bytealg.CountString", "internal/bytealg.IndexByteString", "internal/bytealg.IndexString"], named := ["unicode/utf8.first", "unicode/utf8.acceptRanges", "internal/bytealg.MaxLen"], apart := false, laid := [("unicode/utf8.acceptRanges", laid_unicode_utf8_acceptRanges), ("unicode/utf8.first", laid_unicode_utf8_first)], narrowed := true }
def FnPosLessUptoSaid : Prop := fnPosLessUptoRow.holds Tryd.pinned (OpenSpec.upto fnPosLessSpec)

/-- 'laws.FnExactPosOff', WHERE WHAT IT READS IS OF BULK AT MOST 1048576: true; the input reads as it did. -/
def fnExactPosOffUptoRow : OpenClaim := { program := "ytdimljolinmofaadoor", sum := "8c4b75bcb4ad194e6a4905f980138bcc84fddc82f74bb58c16827d7747713ef4", func := "loop.example/interlinear/laws.FnExactPosOff", spec := "fnExactPosOff", inPlace := ["internal/bytealg.CountString", "internal/bytealg.IndexByteString", "internal/bytealg.IndexString"], named := ["unicode/utf8.first", "unicode/utf8.acceptRanges", "internal/bytealg.MaxLen"], apart := false, laid := [("unicode/utf8.acceptRanges", laid_unicode_utf8_acceptRanges), ("unicode/utf8.first", laid_unicode_utf8_first)], narrowed := true }
def FnExactPosOffUptoSaid : Prop := fnExactPosOffUptoRow.holds Tryd.pinned (OpenSpec.upto fnExactPosOffSpec)

/-- 'laws.FnExactTextLines', WHERE WHAT IT READS IS OF BULK AT MOST 1048576: true; the input reads as it did. -/
def fnExactTextLinesUptoRow : OpenClaim := { program := "ytdimljolinmofaadoor", sum := "8c4b75bcb4ad194e6a4905f980138bcc84fddc82f74bb58c16827d7747713ef4", func := "loop.example/interlinear/laws.FnExactTextLines", spec := "fnExactTextLines", inPlace := ["internal/bytealg.CountString", "internal/bytealg.IndexByteString", "internal/bytealg.IndexString"], named := ["unicode/utf8.first", "unicode/utf8.acceptRanges", "internal/bytealg.MaxLen"], apart := false, laid := [("unicode/utf8.acceptRanges", laid_unicode_utf8_acceptRanges), ("unicode/utf8.first", laid_unicode_utf8_first)], narrowed := true }
def FnExactTextLinesUptoSaid : Prop := fnExactTextLinesUptoRow.holds Tryd.pinned (OpenSpec.upto fnExactTextLinesSpec)

/-- 'laws.FnTextCat', WHERE WHAT IT READS IS OF BULK AT MOST 1048576: true; the input reads as it did. -/
def fnTextCatUptoRow : OpenClaim := { program := "ytdimljolinmofaadoor", sum := "8c4b75bcb4ad194e6a4905f980138bcc84fddc82f74bb58c16827d7747713ef4", func := "loop.example/interlinear/laws.FnTextCat", spec := "fnTextCat", inPlace := ["internal/bytealg.CountString", "internal/bytealg.IndexByteString", "internal/bytealg.IndexString"], named := ["unicode/utf8.first", "unicode/utf8.acceptRanges", "internal/bytealg.MaxLen"], apart := false, laid := [("unicode/utf8.acceptRanges", laid_unicode_utf8_acceptRanges), ("unicode/utf8.first", laid_unicode_utf8_first)], narrowed := true }
def FnTextCatUptoSaid : Prop := fnTextCatUptoRow.holds Tryd.pinned (OpenSpec.upto fnTextCatSpec)

/-- 'laws.FnPosAll', WHERE WHAT IT READS IS OF BULK AT MOST 1048576: true; the input reads as it did. -/
def fnPosAllUptoRow : OpenClaim := { program := "ytdimljolinmofaadoor", sum := "8c4b75bcb4ad194e6a4905f980138bcc84fddc82f74bb58c16827d7747713ef4", func := "loop.example/interlinear/laws.FnPosAll", spec := "fnPosAll", inPlace := ["internal/bytealg.CountString", "internal/bytealg.IndexByteString", "internal/bytealg.IndexString"], named := ["unicode/utf8.first", "unicode/utf8.acceptRanges", "internal/bytealg.MaxLen"], apart := false, laid := [("unicode/utf8.acceptRanges", laid_unicode_utf8_acceptRanges), ("unicode/utf8.first", laid_unicode_utf8_first)], narrowed := true }
def FnPosAllUptoSaid : Prop := fnPosAllUptoRow.holds Tryd.pinned (OpenSpec.upto fnPosAllSpec)

/-- 'laws.FnPos', WHERE WHAT IT READS IS OF BULK AT MOST 1048576: true; the input reads as it did. -/
def fnPosUptoRow : OpenClaim := { program := "ytdimljolinmofaadoor", sum := "8c4b75bcb4ad194e6a4905f980138bcc84fddc82f74bb58c16827d7747713ef4", func := "loop.example/interlinear/laws.FnPos", spec := "fnPos", inPlace := ["internal/bytealg.CountString", "internal/bytealg.IndexByteString", "internal/bytealg.IndexString"], named := ["internal/bytealg.MaxLen", "unicode/utf8.first", "unicode/utf8.acceptRanges"], apart := false, laid := [("unicode/utf8.acceptRanges", laid_unicode_utf8_acceptRanges), ("unicode/utf8.first", laid_unicode_utf8_first)], narrowed := true }
def FnPosUptoSaid : Prop := fnPosUptoRow.holds Tryd.pinned (OpenSpec.upto fnPosSpec)

/-- 'laws.FnPosOff', WHERE WHAT IT READS IS OF BULK AT MOST 1048576: true; the input reads as it did. -/
def fnPosOffUptoRow : OpenClaim := { program := "ytdimljolinmofaadoor", sum := "8c4b75bcb4ad194e6a4905f980138bcc84fddc82f74bb58c16827d7747713ef4", func := "loop.example/interlinear/laws.FnPosOff", spec := "fnPosOff", inPlace := ["internal/bytealg.CountString", "internal/bytealg.IndexByteString", "internal/bytealg.IndexString"], named := ["unicode/utf8.first", "unicode/utf8.acceptRanges", "internal/bytealg.MaxLen"], apart := false, laid := [("unicode/utf8.acceptRanges", laid_unicode_utf8_acceptRanges), ("unicode/utf8.first", laid_unicode_utf8_first)], narrowed := true }
def FnPosOffUptoSaid : Prop := fnPosOffUptoRow.holds Tryd.pinned (OpenSpec.upto fnPosOffSpec)

/-- 'laws.FnText', WHERE WHAT IT READS IS OF BULK AT MOST 1048576: true; the input reads as it did. -/
def fnTextUptoRow : OpenClaim := { program := "ytdimljolinmofaadoor", sum := "8c4b75bcb4ad194e6a4905f980138bcc84fddc82f74bb58c16827d7747713ef4", func := "loop.example/interlinear/laws.FnText", spec := "fnText", inPlace := ["internal/bytealg.CountString", "internal/bytealg.IndexByteString", "internal/bytealg.IndexString", "internal/abi.NoEscape", "internal/bytealg.MakeNoZero"], named := ["unicode/utf8.first", "unicode/utf8.acceptRanges", "internal/bytealg.MaxLen"], apart := false, laid := [("unicode/utf8.acceptRanges", laid_unicode_utf8_acceptRanges), ("unicode/utf8.first", laid_unicode_utf8_first)], narrowed := true }
def FnTextUptoSaid : Prop := fnTextUptoRow.holds Tryd.pinned (OpenSpec.upto fnTextSpec)

end Rows
end Go.Proofs.YtdimljolinmofaaDoor
