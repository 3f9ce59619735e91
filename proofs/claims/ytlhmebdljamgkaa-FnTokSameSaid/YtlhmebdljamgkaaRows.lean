/-
  No cell of these rows narrows 'for every input' (looked for: loops, veiled, ifaces, maps, wideKeys, modest, calm, conditions, laid).
  DERIVED. THE GIVEN ROWS OF THIS SEAT. 4 by the template 'for every input the law returns true; each argument reads behind the call as it read before'; 0 by the template 'total and deterministic' (their statements: YtlhmebdljamgkaaTotals.lean).
  GIVEN WITH THE SEED: the statements are not yours to turn. If you find one false, say at which input.
  Laid BY PROGRAM, IN A SANDBOX (cutbox-rows.mjs): the forced cells as the released guide's own fill.sh prints them over the translation cbc203e0b3b6f2ed… (all of the seat's roots in one cut). By AI agents, Wed Nov 11 2026. No macro, syntax, notation, axiom, sorry.
-/
import Derived.Test.YtlhmebdljamgkaaChecked
import GoSem.Claim
import GoSem.ClaimJoined
import GoSem.ClaimMapViews
import Derived.JoinedTies
import Derived.KernelRfl
namespace Go.Proofs.Ytlhmebdljamgkaa
/- THE CELL 'sum', in the pinned program and in every row, IS THE sha256 OF THE DUMP (.gsa) THAT YtlhmebdljamgkaaProg.lean LOADS. Nothing in Lean hashes anything: it is a label: what it is worth is what the hold of that sum in a sandbox is worth. -/
noncomputable def Try.pinned : Pinned := { name := "ytlhmebdljamgkaa", sum := "cbc203e0b3b6f2edb8656b89e44af0e812208898a16221b9859bf5bd35f9ec92", checked := Try.checked }
namespace Rows
def none {H : Type} : Left H := { results := [], args := [] }

/-- 'laws.FnExactPosLess': WHATEVER THE INPUT: true; the input reads as it did. -/
def fnExactPosLessSpec : ChangeSpec := { name := "fnExactPosLess", fn := fun _ => fun
  | [d1, d2] => { results := [.lit (.bool true)], args := [d1, d2] }
  | _ => none }
def fnExactPosLessRow : OpenClaim := { program := "ytlhmebdljamgkaa", sum := "cbc203e0b3b6f2edb8656b89e44af0e812208898a16221b9859bf5bd35f9ec92", func := "loop.example/interlinear/laws.FnExactPosLess", spec := "fnExactPosLess", apart := false }
def FnExactPosLessSaid : Prop := fnExactPosLessRow.holds Try.pinned (OpenSpec.ofChange fnExactPosLessSpec)

/-- ITS FALSE NEIGHBOUR: 'it returns false'. Refute it at one input. -/
def fnExactPosLessWrong : ChangeSpec := { name := "fnExactPosLess", fn := fun _ => fun
  | [d1, d2] => { results := [.lit (.bool false)], args := [d1, d2] }
  | _ => none }
def FnExactPosLessWrongFalsely : Prop := fnExactPosLessRow.holds Try.pinned (OpenSpec.ofChange fnExactPosLessWrong)

/-- 'laws.FnExactTokSame': WHATEVER THE INPUT: true; the input reads as it did. -/
def fnExactTokSameSpec : ChangeSpec := { name := "fnExactTokSame", fn := fun _ => fun
  | [d1, d2] => { results := [.lit (.bool true)], args := [d1, d2] }
  | _ => none }
def fnExactTokSameRow : OpenClaim := { program := "ytlhmebdljamgkaa", sum := "cbc203e0b3b6f2edb8656b89e44af0e812208898a16221b9859bf5bd35f9ec92", func := "loop.example/interlinear/laws.FnExactTokSame", spec := "fnExactTokSame", apart := false }
def FnExactTokSameSaid : Prop := fnExactTokSameRow.holds Try.pinned (OpenSpec.ofChange fnExactTokSameSpec)

/-- ITS FALSE NEIGHBOUR: 'it returns false'. Refute it at one input. -/
def fnExactTokSameWrong : ChangeSpec := { name := "fnExactTokSame", fn := fun _ => fun
  | [d1, d2] => { results := [.lit (.bool false)], args := [d1, d2] }
  | _ => none }
def FnExactTokSameWrongFalsely : Prop := fnExactTokSameRow.holds Try.pinned (OpenSpec.ofChange fnExactTokSameWrong)

/-- 'laws.FnExactTokText': WHATEVER THE INPUT: true; the input reads as it did. -/
def fnExactTokTextSpec : ChangeSpec := { name := "fnExactTokText", fn := fun _ => fun
  | [d] => { results := [.lit (.bool true)], args := [d] }
  | _ => none }
def fnExactTokTextRow : OpenClaim := { program := "ytlhmebdljamgkaa", sum := "cbc203e0b3b6f2edb8656b89e44af0e812208898a16221b9859bf5bd35f9ec92", func := "loop.example/interlinear/laws.FnExactTokText", spec := "fnExactTokText", inPlace := ["internal/abi.NoEscape", "internal/bytealg.MakeNoZero"], apart := false }
def FnExactTokTextSaid : Prop := fnExactTokTextRow.holds Try.pinned (OpenSpec.ofChange fnExactTokTextSpec)

/-- ITS FALSE NEIGHBOUR: 'it returns false'. Refute it at one input. -/
def fnExactTokTextWrong : ChangeSpec := { name := "fnExactTokText", fn := fun _ => fun
  | [d] => { results := [.lit (.bool false)], args := [d] }
  | _ => none }
def FnExactTokTextWrongFalsely : Prop := fnExactTokTextRow.holds Try.pinned (OpenSpec.ofChange fnExactTokTextWrong)

/-- 'laws.FnTokSame': WHATEVER THE INPUT: true; the input reads as it did. -/
def fnTokSameSpec : ChangeSpec := { name := "fnTokSame", fn := fun _ => fun
  | [d] => { results := [.lit (.bool true)], args := [d] }
  | _ => none }
def fnTokSameRow : OpenClaim := { program := "ytlhmebdljamgkaa", sum := "cbc203e0b3b6f2edb8656b89e44af0e812208898a16221b9859bf5bd35f9ec92", func := "loop.example/interlinear/laws.FnTokSame", spec := "fnTokSame", apart := false }
def FnTokSameSaid : Prop := fnTokSameRow.holds Try.pinned (OpenSpec.ofChange fnTokSameSpec)

/-- ITS FALSE NEIGHBOUR: 'it returns false'. Refute it at one input. -/
def fnTokSameWrong : ChangeSpec := { name := "fnTokSame", fn := fun _ => fun
  | [d] => { results := [.lit (.bool false)], args := [d] }
  | _ => none }
def FnTokSameWrongFalsely : Prop := fnTokSameRow.holds Try.pinned (OpenSpec.ofChange fnTokSameWrong)

/- THE SECOND FORM. 'bulk': how many values and letters a reading holds, each counted each time it is reached (what is shared counts as often as it is met; a slice's spare places count too). A statement '..UptoSaid' is the law's where the arguments, and the package variables that the reading takes, are together of bulk at most 1048576: NARROWER than '..Said'. Prove '..Said' where nothing that the law and all that it calls make is longer than what came in: it says more and counts as full. Else prove '..UptoSaid'. A law counts once. -/
mutual
def uptoBulk {H : Type} : DataW H → Nat
  | .lit (.string bytes) => bytes.length + 1
  | .lit _ => 1
  | .nil => 1
  | .ptr d => uptoBulk d + 1
  | .slice elems spare => uptoBulkAll elems + uptoBulkAll spare + 1
  | .agg parts => uptoBulkAll parts + 1
  | .iface _ d => uptoBulk d + 1
  | .map entries => uptoBulkEntries entries + 1
  | .held _ => 1
def uptoBulkAll {H : Type} : List (DataW H) → Nat
  | [] => 0
  | d :: r => uptoBulk d + uptoBulkAll r
def uptoBulkEntries {H : Type} : List (Lit × DataW H) → Nat
  | [] => 0
  | x :: r => uptoBulkEntry x + uptoBulkEntries r
def uptoBulkEntry {H : Type} : Lit × DataW H → Nat
  | (.string bytes, d) => bytes.length + uptoBulk d + 1
  | (_, d) => uptoBulk d + 1
 end
def uptoSmall : (H : Type) → List (DataW H) → Bool := fun _ ds => decide (uptoBulkAll ds ≤ 1048576)
def OpenSpec.upto (s : _root_.Go.ChangeSpec) : _root_.Go.OpenSpec := { _root_.Go.OpenSpec.ofChange s with cond := some uptoSmall }

/-- 'laws.FnExactPosLess', WHERE WHAT IT READS IS OF BULK AT MOST 1048576: true; the input reads as it did. -/
def fnExactPosLessUptoRow : OpenClaim := { program := "ytlhmebdljamgkaa", sum := "cbc203e0b3b6f2edb8656b89e44af0e812208898a16221b9859bf5bd35f9ec92", func := "loop.example/interlinear/laws.FnExactPosLess", spec := "fnExactPosLess", apart := false, narrowed := true }
def FnExactPosLessUptoSaid : Prop := fnExactPosLessUptoRow.holds Try.pinned (OpenSpec.upto fnExactPosLessSpec)

/-- 'laws.FnExactTokSame', WHERE WHAT IT READS IS OF BULK AT MOST 1048576: true; the input reads as it did. -/
def fnExactTokSameUptoRow : OpenClaim := { program := "ytlhmebdljamgkaa", sum := "cbc203e0b3b6f2edb8656b89e44af0e812208898a16221b9859bf5bd35f9ec92", func := "loop.example/interlinear/laws.FnExactTokSame", spec := "fnExactTokSame", apart := false, narrowed := true }
def FnExactTokSameUptoSaid : Prop := fnExactTokSameUptoRow.holds Try.pinned (OpenSpec.upto fnExactTokSameSpec)

/-- 'laws.FnExactTokText', WHERE WHAT IT READS IS OF BULK AT MOST 1048576: true; the input reads as it did. -/
def fnExactTokTextUptoRow : OpenClaim := { program := "ytlhmebdljamgkaa", sum := "cbc203e0b3b6f2edb8656b89e44af0e812208898a16221b9859bf5bd35f9ec92", func := "loop.example/interlinear/laws.FnExactTokText", spec := "fnExactTokText", inPlace := ["internal/abi.NoEscape", "internal/bytealg.MakeNoZero"], apart := false, narrowed := true }
def FnExactTokTextUptoSaid : Prop := fnExactTokTextUptoRow.holds Try.pinned (OpenSpec.upto fnExactTokTextSpec)

/-- 'laws.FnTokSame', WHERE WHAT IT READS IS OF BULK AT MOST 1048576: true; the input reads as it did. -/
def fnTokSameUptoRow : OpenClaim := { program := "ytlhmebdljamgkaa", sum := "cbc203e0b3b6f2edb8656b89e44af0e812208898a16221b9859bf5bd35f9ec92", func := "loop.example/interlinear/laws.FnTokSame", spec := "fnTokSame", apart := false, narrowed := true }
def FnTokSameUptoSaid : Prop := fnTokSameUptoRow.holds Try.pinned (OpenSpec.upto fnTokSameSpec)

end Rows
end Go.Proofs.Ytlhmebdljamgkaa
