/-
  DERIVED. GIVEN WITH THE SEED: THE CARDS: each row of YtfjmjlpobbjjdaaDoorRows.lean that lists a variable, with what it lists TIED to the program's text (the seventh form; the later family's looks); each row that meets fmt, with fmt's text TOLD by the authors' own Lean function (tested against real Go, not proved from fmt's source: count such statements apart). THE CARD IS WHAT COUNTS. Prove the row's statement (the work); the ties are given (YtfjmjlpobbjjdaaDoorTie.lean); close each card by the builder's one call (the guide's Derived/Test/ToyasCard.lean, 'card_holds'). Laid BY PROGRAM, IN A SANDBOX (cutbox-door.mjs). By AI agents, Wed Nov 11 2026. No macro, syntax, notation, axiom, sorry.
-/
import Derived.Test.YtfjmjlpobbjjdaaDoorRows
import GoSem.ClaimSeven
namespace Go.Proofs.YtfjmjlpobbjjdaaDoor
namespace Rows

/-- THE TIED CARD OF 'laws.FnExprLast'. -/
def fnExprLastCard : Claim7 := { stood := { row := fnExprLastRow, standIns := [], harness := (true, "3eddd79e6471d396175ecf132ae67146269571aea4bd7461705d37e6ee70534a"), looks := true }, kinds := [], alts := [], laidByText := true, laidKinds := [.data, .data, .data, .sentinel, .sentinel, .widerDeep], laidTests := true, laidLooks := .later }
def FnExprLastCardSaid : Prop := Claim7.holds Tryd.pinned (.plain (OpenSpec.ofChange fnExprLastSpec)) fnExprLastCard

/-- THE TIED CARD OF 'laws.FnExactExprOf'. -/
def fnExactExprOfCard : Claim7 := { stood := { row := fnExactExprOfRow, standIns := [], harness := (true, "3eddd79e6471d396175ecf132ae67146269571aea4bd7461705d37e6ee70534a"), looks := true }, kinds := [], alts := [], laidByText := true, laidKinds := [.data, .data, .data, .sentinel, .sentinel, .widerDeep], laidTests := true, laidLooks := .later }
def FnExactExprOfCardSaid : Prop := Claim7.holds Tryd.pinned (.plain (OpenSpec.ofChange fnExactExprOfSpec)) fnExactExprOfCard

/-- THE TIED CARD OF 'laws.FnExprWords'. -/
def fnExprWordsCard : Claim7 := { stood := { row := fnExprWordsRow, standIns := [], harness := (true, "3eddd79e6471d396175ecf132ae67146269571aea4bd7461705d37e6ee70534a"), looks := true }, kinds := [], alts := [], laidByText := true, laidKinds := [.data, .data, .data, .sentinel, .sentinel, .widerDeep], laidTests := true, laidLooks := .later }
def FnExprWordsCardSaid : Prop := Claim7.holds Tryd.pinned (.plain (OpenSpec.ofChange fnExprWordsSpec)) fnExprWordsCard

/-- THE TIED CARD OF 'laws.FnExactExprOk'. -/
def fnExactExprOkCard : Claim7 := { stood := { row := fnExactExprOkRow, standIns := [], harness := (true, "3eddd79e6471d396175ecf132ae67146269571aea4bd7461705d37e6ee70534a"), looks := true }, kinds := [], alts := [], laidByText := true, laidKinds := [.data, .data, .data, .sentinel, .sentinel, .widerDeep], laidTests := true, laidLooks := .later }
def FnExactExprOkCardSaid : Prop := Claim7.holds Tryd.pinned (.plain (OpenSpec.ofChange fnExactExprOkSpec)) fnExactExprOkCard

/-- THE TIED CARD OF 'laws.FnExprBent'. -/
def fnExprBentCard : Claim7 := { stood := { row := fnExprBentRow, standIns := [], harness := (true, "3eddd79e6471d396175ecf132ae67146269571aea4bd7461705d37e6ee70534a"), looks := true }, kinds := [], alts := [], laidByText := true, laidKinds := [.data, .data, .data, .sentinel, .sentinel, .widerDeep], laidTests := true, laidLooks := .later }
def FnExprBentCardSaid : Prop := Claim7.holds Tryd.pinned (.plain (OpenSpec.ofChange fnExprBentSpec)) fnExprBentCard

/-- THE TIED CARD OF 'laws.FnExactExprType'. -/
def fnExactExprTypeCard : Claim7 := { stood := { row := fnExactExprTypeRow, standIns := [], harness := (true, "3eddd79e6471d396175ecf132ae67146269571aea4bd7461705d37e6ee70534a"), looks := true }, kinds := [], alts := [], laidByText := true, laidKinds := [.data, .data, .data, .sentinel, .sentinel, .widerDeep], laidTests := true, laidLooks := .later }
def FnExactExprTypeCardSaid : Prop := Claim7.holds Tryd.pinned (.plain (OpenSpec.ofChange fnExactExprTypeSpec)) fnExactExprTypeCard

/-- THE TIED CARD OF 'laws.FnExprOf'. -/
def fnExprOfCard : Claim7 := { stood := { row := fnExprOfRow, standIns := [], harness := (true, "3eddd79e6471d396175ecf132ae67146269571aea4bd7461705d37e6ee70534a"), looks := true }, kinds := [], alts := [], laidByText := true, laidKinds := [.data, .data, .data, .sentinel, .sentinel, .widerDeep], laidTests := true, laidLooks := .later }
def FnExprOfCardSaid : Prop := Claim7.holds Tryd.pinned (.plain (OpenSpec.ofChange fnExprOfSpec)) fnExprOfCard

/-- THE TIED CARD OF 'laws.FnExprSwap'. -/
def fnExprSwapCard : Claim7 := { stood := { row := fnExprSwapRow, standIns := [], harness := (true, "3eddd79e6471d396175ecf132ae67146269571aea4bd7461705d37e6ee70534a"), looks := true }, kinds := [], alts := [], laidByText := true, laidKinds := [.data, .data, .data, .sentinel, .sentinel, .widerDeep], laidTests := true, laidLooks := .later }
def FnExprSwapCardSaid : Prop := Claim7.holds Tryd.pinned (.plain (OpenSpec.ofChange fnExprSwapSpec)) fnExprSwapCard

/-- THE TIED CARD OF 'laws.FnExprType'. -/
def fnExprTypeCard : Claim7 := { stood := { row := fnExprTypeRow, standIns := [], harness := (true, "3eddd79e6471d396175ecf132ae67146269571aea4bd7461705d37e6ee70534a"), looks := true }, kinds := [], alts := [], laidByText := true, laidKinds := [.data, .data, .data, .sentinel, .sentinel, .widerDeep], laidTests := true, laidLooks := .later }
def FnExprTypeCardSaid : Prop := Claim7.holds Tryd.pinned (.plain (OpenSpec.ofChange fnExprTypeSpec)) fnExprTypeCard

/-- THE TIED CARD OF 'laws.FnExprSame'. -/
def fnExprSameCard : Claim7 := { stood := { row := fnExprSameRow, standIns := [], harness := (true, "3eddd79e6471d396175ecf132ae67146269571aea4bd7461705d37e6ee70534a"), looks := true }, kinds := [], alts := [], laidByText := true, laidKinds := [.data, .data, .data, .sentinel, .sentinel, .widerDeep], laidTests := true, laidLooks := .later }
def FnExprSameCardSaid : Prop := Claim7.holds Tryd.pinned (.plain (OpenSpec.ofChange fnExprSameSpec)) fnExprSameCard

/-- THE TIED CARD OF 'laws.FnExactExprWords'. -/
def fnExactExprWordsCard : Claim7 := { stood := { row := fnExactExprWordsRow, standIns := [], harness := (true, "3eddd79e6471d396175ecf132ae67146269571aea4bd7461705d37e6ee70534a"), looks := true }, kinds := [], alts := [], laidByText := true, laidKinds := [.data, .data, .data, .sentinel, .sentinel, .widerDeep], laidTests := true, laidLooks := .later }
def FnExactExprWordsCardSaid : Prop := Claim7.holds Tryd.pinned (.plain (OpenSpec.ofChange fnExactExprWordsSpec)) fnExactExprWordsCard

/-- THE SECOND FORM's CARD OF 'laws.FnExprLast'. -/
def fnExprLastUptoCard : Claim7 := { stood := { row := fnExprLastUptoRow, standIns := [], harness := (true, "3eddd79e6471d396175ecf132ae67146269571aea4bd7461705d37e6ee70534a"), looks := true }, kinds := [], alts := [], laidByText := true, laidKinds := [.data, .data, .data, .sentinel, .sentinel, .widerDeep], laidTests := true, laidLooks := .later }
def FnExprLastUptoCardSaid : Prop := Claim7.holds Tryd.pinned (.plain (OpenSpec.upto fnExprLastSpec)) fnExprLastUptoCard

/-- THE SECOND FORM's CARD OF 'laws.FnExactExprOf'. -/
def fnExactExprOfUptoCard : Claim7 := { stood := { row := fnExactExprOfUptoRow, standIns := [], harness := (true, "3eddd79e6471d396175ecf132ae67146269571aea4bd7461705d37e6ee70534a"), looks := true }, kinds := [], alts := [], laidByText := true, laidKinds := [.data, .data, .data, .sentinel, .sentinel, .widerDeep], laidTests := true, laidLooks := .later }
def FnExactExprOfUptoCardSaid : Prop := Claim7.holds Tryd.pinned (.plain (OpenSpec.upto fnExactExprOfSpec)) fnExactExprOfUptoCard

/-- THE SECOND FORM's CARD OF 'laws.FnExprWords'. -/
def fnExprWordsUptoCard : Claim7 := { stood := { row := fnExprWordsUptoRow, standIns := [], harness := (true, "3eddd79e6471d396175ecf132ae67146269571aea4bd7461705d37e6ee70534a"), looks := true }, kinds := [], alts := [], laidByText := true, laidKinds := [.data, .data, .data, .sentinel, .sentinel, .widerDeep], laidTests := true, laidLooks := .later }
def FnExprWordsUptoCardSaid : Prop := Claim7.holds Tryd.pinned (.plain (OpenSpec.upto fnExprWordsSpec)) fnExprWordsUptoCard

/-- THE SECOND FORM's CARD OF 'laws.FnExactExprOk'. -/
def fnExactExprOkUptoCard : Claim7 := { stood := { row := fnExactExprOkUptoRow, standIns := [], harness := (true, "3eddd79e6471d396175ecf132ae67146269571aea4bd7461705d37e6ee70534a"), looks := true }, kinds := [], alts := [], laidByText := true, laidKinds := [.data, .data, .data, .sentinel, .sentinel, .widerDeep], laidTests := true, laidLooks := .later }
def FnExactExprOkUptoCardSaid : Prop := Claim7.holds Tryd.pinned (.plain (OpenSpec.upto fnExactExprOkSpec)) fnExactExprOkUptoCard

/-- THE SECOND FORM's CARD OF 'laws.FnExprBent'. -/
def fnExprBentUptoCard : Claim7 := { stood := { row := fnExprBentUptoRow, standIns := [], harness := (true, "3eddd79e6471d396175ecf132ae67146269571aea4bd7461705d37e6ee70534a"), looks := true }, kinds := [], alts := [], laidByText := true, laidKinds := [.data, .data, .data, .sentinel, .sentinel, .widerDeep], laidTests := true, laidLooks := .later }
def FnExprBentUptoCardSaid : Prop := Claim7.holds Tryd.pinned (.plain (OpenSpec.upto fnExprBentSpec)) fnExprBentUptoCard

/-- THE SECOND FORM's CARD OF 'laws.FnExactExprType'. -/
def fnExactExprTypeUptoCard : Claim7 := { stood := { row := fnExactExprTypeUptoRow, standIns := [], harness := (true, "3eddd79e6471d396175ecf132ae67146269571aea4bd7461705d37e6ee70534a"), looks := true }, kinds := [], alts := [], laidByText := true, laidKinds := [.data, .data, .data, .sentinel, .sentinel, .widerDeep], laidTests := true, laidLooks := .later }
def FnExactExprTypeUptoCardSaid : Prop := Claim7.holds Tryd.pinned (.plain (OpenSpec.upto fnExactExprTypeSpec)) fnExactExprTypeUptoCard

/-- THE SECOND FORM's CARD OF 'laws.FnExprOf'. -/
def fnExprOfUptoCard : Claim7 := { stood := { row := fnExprOfUptoRow, standIns := [], harness := (true, "3eddd79e6471d396175ecf132ae67146269571aea4bd7461705d37e6ee70534a"), looks := true }, kinds := [], alts := [], laidByText := true, laidKinds := [.data, .data, .data, .sentinel, .sentinel, .widerDeep], laidTests := true, laidLooks := .later }
def FnExprOfUptoCardSaid : Prop := Claim7.holds Tryd.pinned (.plain (OpenSpec.upto fnExprOfSpec)) fnExprOfUptoCard

/-- THE SECOND FORM's CARD OF 'laws.FnExprSwap'. -/
def fnExprSwapUptoCard : Claim7 := { stood := { row := fnExprSwapUptoRow, standIns := [], harness := (true, "3eddd79e6471d396175ecf132ae67146269571aea4bd7461705d37e6ee70534a"), looks := true }, kinds := [], alts := [], laidByText := true, laidKinds := [.data, .data, .data, .sentinel, .sentinel, .widerDeep], laidTests := true, laidLooks := .later }
def FnExprSwapUptoCardSaid : Prop := Claim7.holds Tryd.pinned (.plain (OpenSpec.upto fnExprSwapSpec)) fnExprSwapUptoCard

/-- THE SECOND FORM's CARD OF 'laws.FnExprType'. -/
def fnExprTypeUptoCard : Claim7 := { stood := { row := fnExprTypeUptoRow, standIns := [], harness := (true, "3eddd79e6471d396175ecf132ae67146269571aea4bd7461705d37e6ee70534a"), looks := true }, kinds := [], alts := [], laidByText := true, laidKinds := [.data, .data, .data, .sentinel, .sentinel, .widerDeep], laidTests := true, laidLooks := .later }
def FnExprTypeUptoCardSaid : Prop := Claim7.holds Tryd.pinned (.plain (OpenSpec.upto fnExprTypeSpec)) fnExprTypeUptoCard

/-- THE SECOND FORM's CARD OF 'laws.FnExprSame'. -/
def fnExprSameUptoCard : Claim7 := { stood := { row := fnExprSameUptoRow, standIns := [], harness := (true, "3eddd79e6471d396175ecf132ae67146269571aea4bd7461705d37e6ee70534a"), looks := true }, kinds := [], alts := [], laidByText := true, laidKinds := [.data, .data, .data, .sentinel, .sentinel, .widerDeep], laidTests := true, laidLooks := .later }
def FnExprSameUptoCardSaid : Prop := Claim7.holds Tryd.pinned (.plain (OpenSpec.upto fnExprSameSpec)) fnExprSameUptoCard

/-- THE SECOND FORM's CARD OF 'laws.FnExactExprWords'. -/
def fnExactExprWordsUptoCard : Claim7 := { stood := { row := fnExactExprWordsUptoRow, standIns := [], harness := (true, "3eddd79e6471d396175ecf132ae67146269571aea4bd7461705d37e6ee70534a"), looks := true }, kinds := [], alts := [], laidByText := true, laidKinds := [.data, .data, .data, .sentinel, .sentinel, .widerDeep], laidTests := true, laidLooks := .later }
def FnExactExprWordsUptoCardSaid : Prop := Claim7.holds Tryd.pinned (.plain (OpenSpec.upto fnExactExprWordsSpec)) fnExactExprWordsUptoCard
end Rows
end Go.Proofs.YtfjmjlpobbjjdaaDoor
