/-
  NARROWER THAN 'FOR EVERY INPUT', by the rows' own cells (each row's printed sentence says how): FnExactExprSame: loops · FnExactBareSame: loops · FnExactStmtSame: loops.
  DERIVED. THE GIVEN ROWS OF THIS SEAT. 3 by the template 'for every input the law returns true; each argument reads behind the call as it read before'; 0 by the template 'total and deterministic' (their statements: YtfjmjlpobbjjdaaTotals.lean).
  GIVEN WITH THE SEED: the statements are not yours to turn. If you find one false, say at which input.
  Laid BY PROGRAM, IN A SANDBOX (cutbox-rows.mjs): the forced cells as the released guide's own fill.sh prints them over the translation c84245a95b118696… (all of the seat's roots in one cut). By AI agents, Wed Nov 11 2026. No macro, syntax, notation, axiom, sorry.
-/
import Derived.Test.YtfjmjlpobbjjdaaChecked
import GoSem.Claim
import GoSem.ClaimJoined
import GoSem.ClaimMapViews
import Derived.JoinedTies
import Derived.KernelRfl
namespace Go.Proofs.Ytfjmjlpobbjjdaa
/- THE CELL 'sum', in the pinned program and in every row, IS THE sha256 OF THE DUMP (.gsa) THAT YtfjmjlpobbjjdaaProg.lean LOADS. Nothing in Lean hashes anything: it is a label: what it is worth is what the hold of that sum in a sandbox is worth. -/
noncomputable def Try.pinned : Pinned := { name := "ytfjmjlpobbjjdaa", sum := "c84245a95b118696e29e58e2cc0584bcfbd65a1252dd482dc5bb8ac49e5a7c04", checked := Try.checked }
namespace Rows
def none {H : Type} : Left H := { results := [], args := [] }

/-- 'laws.FnExactExprSame': WHATEVER THE INPUT: true; the input reads as it did. -/
def fnExactExprSameSpec : ChangeSpec := { name := "fnExactExprSame", fn := fun _ => fun
  | [d1, d2] => { results := [.lit (.bool true)], args := [d1, d2] }
  | _ => none }
def fnExactExprSameRow : OpenClaim := { program := "ytfjmjlpobbjjdaa", sum := "c84245a95b118696e29e58e2cc0584bcfbd65a1252dd482dc5bb8ac49e5a7c04", func := "loop.example/interlinear/laws.FnExactExprSame", spec := "fnExactExprSame", unfollowed := true, recurses := true, loops := true, apart := false }
def FnExactExprSameSaid : Prop := fnExactExprSameRow.holds Try.pinned (OpenSpec.ofChange fnExactExprSameSpec)

/-- ITS FALSE NEIGHBOUR: 'it returns false'. Refute it at one input. -/
def fnExactExprSameWrong : ChangeSpec := { name := "fnExactExprSame", fn := fun _ => fun
  | [d1, d2] => { results := [.lit (.bool false)], args := [d1, d2] }
  | _ => none }
def FnExactExprSameWrongFalsely : Prop := fnExactExprSameRow.holds Try.pinned (OpenSpec.ofChange fnExactExprSameWrong)

/-- 'laws.FnExactBareSame': WHATEVER THE INPUT: true; the input reads as it did. -/
def fnExactBareSameSpec : ChangeSpec := { name := "fnExactBareSame", fn := fun _ => fun
  | [d1, d2] => { results := [.lit (.bool true)], args := [d1, d2] }
  | _ => none }
def fnExactBareSameRow : OpenClaim := { program := "ytfjmjlpobbjjdaa", sum := "c84245a95b118696e29e58e2cc0584bcfbd65a1252dd482dc5bb8ac49e5a7c04", func := "loop.example/interlinear/laws.FnExactBareSame", spec := "fnExactBareSame", unfollowed := true, recurses := true, loops := true, apart := false }
def FnExactBareSameSaid : Prop := fnExactBareSameRow.holds Try.pinned (OpenSpec.ofChange fnExactBareSameSpec)

/-- ITS FALSE NEIGHBOUR: 'it returns false'. Refute it at one input. -/
def fnExactBareSameWrong : ChangeSpec := { name := "fnExactBareSame", fn := fun _ => fun
  | [d1, d2] => { results := [.lit (.bool false)], args := [d1, d2] }
  | _ => none }
def FnExactBareSameWrongFalsely : Prop := fnExactBareSameRow.holds Try.pinned (OpenSpec.ofChange fnExactBareSameWrong)

/-- 'laws.FnExactStmtSame': WHATEVER THE INPUT: true; the input reads as it did. -/
def fnExactStmtSameSpec : ChangeSpec := { name := "fnExactStmtSame", fn := fun _ => fun
  | [d1, d2] => { results := [.lit (.bool true)], args := [d1, d2] }
  | _ => none }
def fnExactStmtSameRow : OpenClaim := { program := "ytfjmjlpobbjjdaa", sum := "c84245a95b118696e29e58e2cc0584bcfbd65a1252dd482dc5bb8ac49e5a7c04", func := "loop.example/interlinear/laws.FnExactStmtSame", spec := "fnExactStmtSame", unfollowed := true, recurses := true, loops := true, apart := false }
def FnExactStmtSameSaid : Prop := fnExactStmtSameRow.holds Try.pinned (OpenSpec.ofChange fnExactStmtSameSpec)

/-- ITS FALSE NEIGHBOUR: 'it returns false'. Refute it at one input. -/
def fnExactStmtSameWrong : ChangeSpec := { name := "fnExactStmtSame", fn := fun _ => fun
  | [d1, d2] => { results := [.lit (.bool false)], args := [d1, d2] }
  | _ => none }
def FnExactStmtSameWrongFalsely : Prop := fnExactStmtSameRow.holds Try.pinned (OpenSpec.ofChange fnExactStmtSameWrong)

/- THE SECOND FORM. 'bulk': how many values and letters a reading holds, each counted each time it is reached (what is shared counts as often as it is met; a slice's spare places count too). A statement '..UptoSaid' is the law's where the arguments, and the package variables that the reading takes, are together of bulk at most 1048576: NARROWER than '..Said'. Prove '..Said' where nothing that the law and all that it calls make is longer than what came in: it says more and counts as full. Else prove '..UptoSaid'. A law counts once. -/
mutual
def uptoBulk {H : Type} : DataW H → Nat
  | .lit (.string bytes) => bytes.length + 1
  | .lit _ => 1
  | .nil => 1
  | .ptr d => uptoBulk d + 1
  | .slice elems spare => uptoBulkAll elems + uptoBulkAll spare + 1
  | .agg parts => uptoBulkAll parts + 1
  | .iface _ d => uptoBulk d + 1
  | .map entries => uptoBulkEntries entries + 1
  | .held _ => 1
def uptoBulkAll {H : Type} : List (DataW H) → Nat
  | [] => 0
  | d :: r => uptoBulk d + uptoBulkAll r
def uptoBulkEntries {H : Type} : List (Lit × DataW H) → Nat
  | [] => 0
  | x :: r => uptoBulkEntry x + uptoBulkEntries r
def uptoBulkEntry {H : Type} : Lit × DataW H → Nat
  | (.string bytes, d) => bytes.length + uptoBulk d + 1
  | (_, d) => uptoBulk d + 1
 end
def uptoSmall : (H : Type) → List (DataW H) → Bool := fun _ ds => decide (uptoBulkAll ds ≤ 1048576)
def OpenSpec.upto (s : _root_.Go.ChangeSpec) : _root_.Go.OpenSpec := { _root_.Go.OpenSpec.ofChange s with cond := some uptoSmall }

/-- 'laws.FnExactExprSame', WHERE WHAT IT READS IS OF BULK AT MOST 1048576: true; the input reads as it did. -/
def fnExactExprSameUptoRow : OpenClaim := { program := "ytfjmjlpobbjjdaa", sum := "c84245a95b118696e29e58e2cc0584bcfbd65a1252dd482dc5bb8ac49e5a7c04", func := "loop.example/interlinear/laws.FnExactExprSame", spec := "fnExactExprSame", unfollowed := true, recurses := true, loops := true, apart := false, narrowed := true }
def FnExactExprSameUptoSaid : Prop := fnExactExprSameUptoRow.holds Try.pinned (OpenSpec.upto fnExactExprSameSpec)

/-- 'laws.FnExactBareSame', WHERE WHAT IT READS IS OF BULK AT MOST 1048576: true; the input reads as it did. -/
def fnExactBareSameUptoRow : OpenClaim := { program := "ytfjmjlpobbjjdaa", sum := "c84245a95b118696e29e58e2cc0584bcfbd65a1252dd482dc5bb8ac49e5a7c04", func := "loop.example/interlinear/laws.FnExactBareSame", spec := "fnExactBareSame", unfollowed := true, recurses := true, loops := true, apart := false, narrowed := true }
def FnExactBareSameUptoSaid : Prop := fnExactBareSameUptoRow.holds Try.pinned (OpenSpec.upto fnExactBareSameSpec)

/-- 'laws.FnExactStmtSame', WHERE WHAT IT READS IS OF BULK AT MOST 1048576: true; the input reads as it did. -/
def fnExactStmtSameUptoRow : OpenClaim := { program := "ytfjmjlpobbjjdaa", sum := "c84245a95b118696e29e58e2cc0584bcfbd65a1252dd482dc5bb8ac49e5a7c04", func := "loop.example/interlinear/laws.FnExactStmtSame", spec := "fnExactStmtSame", unfollowed := true, recurses := true, loops := true, apart := false, narrowed := true }
def FnExactStmtSameUptoSaid : Prop := fnExactStmtSameUptoRow.holds Try.pinned (OpenSpec.upto fnExactStmtSameSpec)

end Rows
end Go.Proofs.Ytfjmjlpobbjjdaa
