/-
  No cell of these rows narrows 'for every input' (looked for: loops, veiled, ifaces, maps, wideKeys, modest, calm, conditions, laid).
  DERIVED. THE GIVEN ROWS OF THIS SEAT. 4 by the template 'for every input the law returns true; each argument reads behind the call as it read before'; 0 by the template 'total and deterministic' (their statements: YtdimljolinmofaaTotals.lean).
  GIVEN WITH THE SEED: the statements are not yours to turn. If you find one false, say at which input.
  Laid BY PROGRAM, IN A SANDBOX (cutbox-rows.mjs): the forced cells as the released guide's own fill.sh prints them over the translation d9acd29344764c3b… (all of the seat's roots in one cut). By AI agents, Wed Nov 11 2026. No macro, syntax, notation, axiom, sorry.
-/
import Derived.Test.YtdimljolinmofaaChecked
import GoSem.Claim
import GoSem.ClaimJoined
import GoSem.ClaimMapViews
import Derived.JoinedTies
import Derived.KernelRfl
namespace Go.Proofs.Ytdimljolinmofaa
/- THE CELL 'sum', in the pinned program and in every row, IS THE sha256 OF THE DUMP (.gsa) THAT YtdimljolinmofaaProg.lean LOADS. Nothing in Lean hashes anything: it is a label: what it is worth is what the hold of that sum in a sandbox is worth. -/
noncomputable def Try.pinned : Pinned := { name := "ytdimljolinmofaa", sum := "d9acd29344764c3b9aefae52bc676e320867fa12462ae86329f1a0dcf32ef073", checked := Try.checked }
namespace Rows
def none {H : Type} : Left H := { results := [], args := [] }

/-- 'laws.FnExactTextOk': WHATEVER THE INPUT: true; the input reads as it did. -/
def fnExactTextOkSpec : ChangeSpec := { name := "fnExactTextOk", fn := fun _ => fun
  | [d] => { results := [.lit (.bool true)], args := [d] }
  | _ => none }
def fnExactTextOkRow : OpenClaim := { program := "ytdimljolinmofaa", sum := "d9acd29344764c3b9aefae52bc676e320867fa12462ae86329f1a0dcf32ef073", func := "loop.example/interlinear/laws.FnExactTextOk", spec := "fnExactTextOk", apart := false }
def FnExactTextOkSaid : Prop := fnExactTextOkRow.holds Try.pinned (OpenSpec.ofChange fnExactTextOkSpec)

/-- ITS FALSE NEIGHBOUR: 'it returns false'. Refute it at one input. -/
def fnExactTextOkWrong : ChangeSpec := { name := "fnExactTextOk", fn := fun _ => fun
  | [d] => { results := [.lit (.bool false)], args := [d] }
  | _ => none }
def FnExactTextOkWrongFalsely : Prop := fnExactTextOkRow.holds Try.pinned (OpenSpec.ofChange fnExactTextOkWrong)

/-- 'laws.FnTextOk': WHATEVER THE INPUT: true; the input reads as it did. -/
def fnTextOkSpec : ChangeSpec := { name := "fnTextOk", fn := fun _ => fun
  | [d1, d2] => { results := [.lit (.bool true)], args := [d1, d2] }
  | _ => none }
def fnTextOkRow : OpenClaim := { program := "ytdimljolinmofaa", sum := "d9acd29344764c3b9aefae52bc676e320867fa12462ae86329f1a0dcf32ef073", func := "loop.example/interlinear/laws.FnTextOk", spec := "fnTextOk", apart := false }
def FnTextOkSaid : Prop := fnTextOkRow.holds Try.pinned (OpenSpec.ofChange fnTextOkSpec)

/-- ITS FALSE NEIGHBOUR: 'it returns false'. Refute it at one input. -/
def fnTextOkWrong : ChangeSpec := { name := "fnTextOk", fn := fun _ => fun
  | [d1, d2] => { results := [.lit (.bool false)], args := [d1, d2] }
  | _ => none }
def FnTextOkWrongFalsely : Prop := fnTextOkRow.holds Try.pinned (OpenSpec.ofChange fnTextOkWrong)

/-- 'laws.FnExactTextJoin': WHATEVER THE INPUT: true; the input reads as it did. -/
def fnExactTextJoinSpec : ChangeSpec := { name := "fnExactTextJoin", fn := fun _ => fun
  | [d] => { results := [.lit (.bool true)], args := [d] }
  | _ => none }
def fnExactTextJoinRow : OpenClaim := { program := "ytdimljolinmofaa", sum := "d9acd29344764c3b9aefae52bc676e320867fa12462ae86329f1a0dcf32ef073", func := "loop.example/interlinear/laws.FnExactTextJoin", spec := "fnExactTextJoin", inPlace := ["internal/abi.NoEscape", "internal/bytealg.MakeNoZero"], apart := false }
def FnExactTextJoinSaid : Prop := fnExactTextJoinRow.holds Try.pinned (OpenSpec.ofChange fnExactTextJoinSpec)

/-- ITS FALSE NEIGHBOUR: 'it returns false'. Refute it at one input. -/
def fnExactTextJoinWrong : ChangeSpec := { name := "fnExactTextJoin", fn := fun _ => fun
  | [d] => { results := [.lit (.bool false)], args := [d] }
  | _ => none }
def FnExactTextJoinWrongFalsely : Prop := fnExactTextJoinRow.holds Try.pinned (OpenSpec.ofChange fnExactTextJoinWrong)

/-- 'laws.FnExactPosOf': WHATEVER THE INPUT: true; the input reads as it did. -/
def fnExactPosOfSpec : ChangeSpec := { name := "fnExactPosOf", fn := fun _ => fun
  | [d1, d2] => { results := [.lit (.bool true)], args := [d1, d2] }
  | _ => none }
def fnExactPosOfRow : OpenClaim := { program := "ytdimljolinmofaa", sum := "d9acd29344764c3b9aefae52bc676e320867fa12462ae86329f1a0dcf32ef073", func := "loop.example/interlinear/laws.FnExactPosOf", spec := "fnExactPosOf", inPlace := ["internal/bytealg.CountString", "internal/bytealg.IndexByteString", "internal/bytealg.IndexString"], named := ["internal/bytealg.MaxLen"], apart := false }
def FnExactPosOfSaid : Prop := fnExactPosOfRow.holds Try.pinned (OpenSpec.ofChange fnExactPosOfSpec)

/-- ITS FALSE NEIGHBOUR: 'it returns false'. Refute it at one input. -/
def fnExactPosOfWrong : ChangeSpec := { name := "fnExactPosOf", fn := fun _ => fun
  | [d1, d2] => { results := [.lit (.bool false)], args := [d1, d2] }
  | _ => none }
def FnExactPosOfWrongFalsely : Prop := fnExactPosOfRow.holds Try.pinned (OpenSpec.ofChange fnExactPosOfWrong)

/- THE SECOND FORM. 'bulk': how many values and letters a reading holds, each counted each time it is reached (what is shared counts as often as it is met; a slice's spare places count too). A statement '..UptoSaid' is the law's where the arguments, and the package variables that the reading takes, are together of bulk at most 1048576: NARROWER than '..Said'. Prove '..Said' where nothing that the law and all that it calls make is longer than what came in: it says more and counts as full. Else prove '..UptoSaid'. A law counts once. -/
mutual
def uptoBulk {H : Type} : DataW H → Nat
  | .lit (.string bytes) => bytes.length + 1
  | .lit _ => 1
  | .nil => 1
  | .ptr d => uptoBulk d + 1
  | .slice elems spare => uptoBulkAll elems + uptoBulkAll spare + 1
  | .agg parts => uptoBulkAll parts + 1
  | .iface _ d => uptoBulk d + 1
  | .map entries => uptoBulkEntries entries + 1
  | .held _ => 1
def uptoBulkAll {H : Type} : List (DataW H) → Nat
  | [] => 0
  | d :: r => uptoBulk d + uptoBulkAll r
def uptoBulkEntries {H : Type} : List (Lit × DataW H) → Nat
  | [] => 0
  | x :: r => uptoBulkEntry x + uptoBulkEntries r
def uptoBulkEntry {H : Type} : Lit × DataW H → Nat
  | (.string bytes, d) => bytes.length + uptoBulk d + 1
  | (_, d) => uptoBulk d + 1
 end
def uptoSmall : (H : Type) → List (DataW H) → Bool := fun _ ds => decide (uptoBulkAll ds ≤ 1048576)
def OpenSpec.upto (s : _root_.Go.ChangeSpec) : _root_.Go.OpenSpec := { _root_.Go.OpenSpec.ofChange s with cond := some uptoSmall }

/-- 'laws.FnExactTextOk', WHERE WHAT IT READS IS OF BULK AT MOST 1048576: true; the input reads as it did. -/
def fnExactTextOkUptoRow : OpenClaim := { program := "ytdimljolinmofaa", sum := "d9acd29344764c3b9aefae52bc676e320867fa12462ae86329f1a0dcf32ef073", func := "loop.example/interlinear/laws.FnExactTextOk", spec := "fnExactTextOk", apart := false, narrowed := true }
def FnExactTextOkUptoSaid : Prop := fnExactTextOkUptoRow.holds Try.pinned (OpenSpec.upto fnExactTextOkSpec)

/-- 'laws.FnTextOk', WHERE WHAT IT READS IS OF BULK AT MOST 1048576: true; the input reads as it did. -/
def fnTextOkUptoRow : OpenClaim := { program := "ytdimljolinmofaa", sum := "d9acd29344764c3b9aefae52bc676e320867fa12462ae86329f1a0dcf32ef073", func := "loop.example/interlinear/laws.FnTextOk", spec := "fnTextOk", apart := false, narrowed := true }
def FnTextOkUptoSaid : Prop := fnTextOkUptoRow.holds Try.pinned (OpenSpec.upto fnTextOkSpec)

/-- 'laws.FnExactTextJoin', WHERE WHAT IT READS IS OF BULK AT MOST 1048576: true; the input reads as it did. -/
def fnExactTextJoinUptoRow : OpenClaim := { program := "ytdimljolinmofaa", sum := "d9acd29344764c3b9aefae52bc676e320867fa12462ae86329f1a0dcf32ef073", func := "loop.example/interlinear/laws.FnExactTextJoin", spec := "fnExactTextJoin", inPlace := ["internal/abi.NoEscape", "internal/bytealg.MakeNoZero"], apart := false, narrowed := true }
def FnExactTextJoinUptoSaid : Prop := fnExactTextJoinUptoRow.holds Try.pinned (OpenSpec.upto fnExactTextJoinSpec)

/-- 'laws.FnExactPosOf', WHERE WHAT IT READS IS OF BULK AT MOST 1048576: true; the input reads as it did. -/
def fnExactPosOfUptoRow : OpenClaim := { program := "ytdimljolinmofaa", sum := "d9acd29344764c3b9aefae52bc676e320867fa12462ae86329f1a0dcf32ef073", func := "loop.example/interlinear/laws.FnExactPosOf", spec := "fnExactPosOf", inPlace := ["internal/bytealg.CountString", "internal/bytealg.IndexByteString", "internal/bytealg.IndexString"], named := ["internal/bytealg.MaxLen"], apart := false, narrowed := true }
def FnExactPosOfUptoSaid : Prop := fnExactPosOfUptoRow.holds Try.pinned (OpenSpec.upto fnExactPosOfSpec)

end Rows
end Go.Proofs.Ytdimljolinmofaa
