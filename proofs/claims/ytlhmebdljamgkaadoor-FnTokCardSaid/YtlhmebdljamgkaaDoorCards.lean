/-
  DERIVED. GIVEN WITH THE SEED: THE CARDS: each row of YtlhmebdljamgkaaDoorRows.lean that lists a variable, with what it lists TIED to the program's text (the seventh form; the later family's looks); each row that meets fmt, with fmt's text TOLD by the authors' own Lean function (tested against real Go, not proved from fmt's source: count such statements apart). THE CARD IS WHAT COUNTS. Prove the row's statement (the work); the ties are given (YtlhmebdljamgkaaDoorTie.lean); close each card by the builder's one call (the guide's Derived/Test/ToyasCard.lean, 'card_holds'). Laid BY PROGRAM, IN A SANDBOX (cutbox-door.mjs). By AI agents, Wed Nov 11 2026. No macro, syntax, notation, axiom, sorry.
-/
import Derived.Test.YtlhmebdljamgkaaDoorRows
import GoSem.ClaimSeven
namespace Go.Proofs.YtlhmebdljamgkaaDoor
namespace Rows

/-- THE TIED CARD OF 'laws.FnExactTokOk'. -/
def fnExactTokOkCard : Claim7 := { stood := { row := fnExactTokOkRow, standIns := [], harness := (true, "a1bc6c4baf4cda0ed1f600efcfcb8cf09fbeaa954d5b416ff310bf5cfcf57da0"), looks := true }, kinds := [], alts := [], laidByText := true, laidKinds := [.data, .data, .data, .sentinel, .sentinel], laidTests := true, laidLooks := .later }
def FnExactTokOkCardSaid : Prop := Claim7.holds Tryd.pinned (.plain (OpenSpec.ofChange fnExactTokOkSpec)) fnExactTokOkCard

/-- THE TIED CARD OF 'laws.FnExactTokKind'. -/
def fnExactTokKindCard : Claim7 := { stood := { row := fnExactTokKindRow, standIns := [], harness := (true, "a1bc6c4baf4cda0ed1f600efcfcb8cf09fbeaa954d5b416ff310bf5cfcf57da0"), looks := true }, kinds := [], alts := [], laidByText := true, laidKinds := [.data, .data, .data, .sentinel, .sentinel], laidTests := true, laidLooks := .later }
def FnExactTokKindCardSaid : Prop := Claim7.holds Tryd.pinned (.plain (OpenSpec.ofChange fnExactTokKindSpec)) fnExactTokKindCard

/-- THE TIED CARD OF 'laws.FnTokKind'. -/
def fnTokKindCard : Claim7 := { stood := { row := fnTokKindRow, standIns := [], harness := (true, "a1bc6c4baf4cda0ed1f600efcfcb8cf09fbeaa954d5b416ff310bf5cfcf57da0"), looks := true }, kinds := [], alts := [], laidByText := true, laidKinds := [.data, .data, .data, .sentinel, .sentinel], laidTests := true, laidLooks := .later }
def FnTokKindCardSaid : Prop := Claim7.holds Tryd.pinned (.plain (OpenSpec.ofChange fnTokKindSpec)) fnTokKindCard

/-- THE TIED CARD OF 'laws.FnTokText'. -/
def fnTokTextCard : Claim7 := { stood := { row := fnTokTextRow, standIns := [], harness := (true, "a1bc6c4baf4cda0ed1f600efcfcb8cf09fbeaa954d5b416ff310bf5cfcf57da0"), looks := true }, kinds := [], alts := [], laidByText := true, laidKinds := [.data, .data, .data, .sentinel, .sentinel], laidTests := true, laidLooks := .later }
def FnTokTextCardSaid : Prop := Claim7.holds Tryd.pinned (.plain (OpenSpec.ofChange fnTokTextSpec)) fnTokTextCard

/-- THE TIED CARD OF 'laws.FnExactTokLine'. -/
def fnExactTokLineCard : Claim7 := { stood := { row := fnExactTokLineRow, standIns := [], harness := (true, "a1bc6c4baf4cda0ed1f600efcfcb8cf09fbeaa954d5b416ff310bf5cfcf57da0"), looks := true }, kinds := [], alts := [], laidByText := true, laidKinds := [.data, .data, .data, .sentinel, .sentinel], laidTests := true, laidLooks := .later }
def FnExactTokLineCardSaid : Prop := Claim7.holds Tryd.pinned (.plain (OpenSpec.ofChange fnExactTokLineSpec)) fnExactTokLineCard

/-- THE TIED CARD OF 'laws.FnTokCat'. -/
def fnTokCatCard : Claim7 := { stood := { row := fnTokCatRow, standIns := [], harness := (true, "a1bc6c4baf4cda0ed1f600efcfcb8cf09fbeaa954d5b416ff310bf5cfcf57da0"), looks := true }, kinds := [], alts := [], laidByText := true, laidKinds := [.data, .data, .data, .sentinel, .sentinel], laidTests := true, laidLooks := .later }
def FnTokCatCardSaid : Prop := Claim7.holds Tryd.pinned (.plain (OpenSpec.ofChange fnTokCatSpec)) fnTokCatCard

/-- THE TIED CARD OF 'laws.FnTok'. -/
def fnTokCard : Claim7 := { stood := { row := fnTokRow, standIns := [], harness := (true, "a1bc6c4baf4cda0ed1f600efcfcb8cf09fbeaa954d5b416ff310bf5cfcf57da0"), looks := true }, kinds := [], alts := [], laidByText := true, laidKinds := [.data, .data, .data, .sentinel, .sentinel], laidTests := true, laidLooks := .later }
def FnTokCardSaid : Prop := Claim7.holds Tryd.pinned (.plain (OpenSpec.ofChange fnTokSpec)) fnTokCard

/-- THE TIED CARD OF 'laws.FnTokSpaces'. -/
def fnTokSpacesCard : Claim7 := { stood := { row := fnTokSpacesRow, standIns := [], harness := (true, "a1bc6c4baf4cda0ed1f600efcfcb8cf09fbeaa954d5b416ff310bf5cfcf57da0"), looks := true }, kinds := [], alts := [], laidByText := true, laidKinds := [.data, .data, .data, .sentinel, .sentinel], laidTests := true, laidLooks := .later }
def FnTokSpacesCardSaid : Prop := Claim7.holds Tryd.pinned (.plain (OpenSpec.ofChange fnTokSpacesSpec)) fnTokSpacesCard

/-- THE SECOND FORM's CARD OF 'laws.FnExactTokOk'. -/
def fnExactTokOkUptoCard : Claim7 := { stood := { row := fnExactTokOkUptoRow, standIns := [], harness := (true, "a1bc6c4baf4cda0ed1f600efcfcb8cf09fbeaa954d5b416ff310bf5cfcf57da0"), looks := true }, kinds := [], alts := [], laidByText := true, laidKinds := [.data, .data, .data, .sentinel, .sentinel], laidTests := true, laidLooks := .later }
def FnExactTokOkUptoCardSaid : Prop := Claim7.holds Tryd.pinned (.plain (OpenSpec.upto fnExactTokOkSpec)) fnExactTokOkUptoCard

/-- THE SECOND FORM's CARD OF 'laws.FnExactTokKind'. -/
def fnExactTokKindUptoCard : Claim7 := { stood := { row := fnExactTokKindUptoRow, standIns := [], harness := (true, "a1bc6c4baf4cda0ed1f600efcfcb8cf09fbeaa954d5b416ff310bf5cfcf57da0"), looks := true }, kinds := [], alts := [], laidByText := true, laidKinds := [.data, .data, .data, .sentinel, .sentinel], laidTests := true, laidLooks := .later }
def FnExactTokKindUptoCardSaid : Prop := Claim7.holds Tryd.pinned (.plain (OpenSpec.upto fnExactTokKindSpec)) fnExactTokKindUptoCard

/-- THE SECOND FORM's CARD OF 'laws.FnTokKind'. -/
def fnTokKindUptoCard : Claim7 := { stood := { row := fnTokKindUptoRow, standIns := [], harness := (true, "a1bc6c4baf4cda0ed1f600efcfcb8cf09fbeaa954d5b416ff310bf5cfcf57da0"), looks := true }, kinds := [], alts := [], laidByText := true, laidKinds := [.data, .data, .data, .sentinel, .sentinel], laidTests := true, laidLooks := .later }
def FnTokKindUptoCardSaid : Prop := Claim7.holds Tryd.pinned (.plain (OpenSpec.upto fnTokKindSpec)) fnTokKindUptoCard

/-- THE SECOND FORM's CARD OF 'laws.FnTokText'. -/
def fnTokTextUptoCard : Claim7 := { stood := { row := fnTokTextUptoRow, standIns := [], harness := (true, "a1bc6c4baf4cda0ed1f600efcfcb8cf09fbeaa954d5b416ff310bf5cfcf57da0"), looks := true }, kinds := [], alts := [], laidByText := true, laidKinds := [.data, .data, .data, .sentinel, .sentinel], laidTests := true, laidLooks := .later }
def FnTokTextUptoCardSaid : Prop := Claim7.holds Tryd.pinned (.plain (OpenSpec.upto fnTokTextSpec)) fnTokTextUptoCard

/-- THE SECOND FORM's CARD OF 'laws.FnExactTokLine'. -/
def fnExactTokLineUptoCard : Claim7 := { stood := { row := fnExactTokLineUptoRow, standIns := [], harness := (true, "a1bc6c4baf4cda0ed1f600efcfcb8cf09fbeaa954d5b416ff310bf5cfcf57da0"), looks := true }, kinds := [], alts := [], laidByText := true, laidKinds := [.data, .data, .data, .sentinel, .sentinel], laidTests := true, laidLooks := .later }
def FnExactTokLineUptoCardSaid : Prop := Claim7.holds Tryd.pinned (.plain (OpenSpec.upto fnExactTokLineSpec)) fnExactTokLineUptoCard

/-- THE SECOND FORM's CARD OF 'laws.FnTokCat'. -/
def fnTokCatUptoCard : Claim7 := { stood := { row := fnTokCatUptoRow, standIns := [], harness := (true, "a1bc6c4baf4cda0ed1f600efcfcb8cf09fbeaa954d5b416ff310bf5cfcf57da0"), looks := true }, kinds := [], alts := [], laidByText := true, laidKinds := [.data, .data, .data, .sentinel, .sentinel], laidTests := true, laidLooks := .later }
def FnTokCatUptoCardSaid : Prop := Claim7.holds Tryd.pinned (.plain (OpenSpec.upto fnTokCatSpec)) fnTokCatUptoCard

/-- THE SECOND FORM's CARD OF 'laws.FnTok'. -/
def fnTokUptoCard : Claim7 := { stood := { row := fnTokUptoRow, standIns := [], harness := (true, "a1bc6c4baf4cda0ed1f600efcfcb8cf09fbeaa954d5b416ff310bf5cfcf57da0"), looks := true }, kinds := [], alts := [], laidByText := true, laidKinds := [.data, .data, .data, .sentinel, .sentinel], laidTests := true, laidLooks := .later }
def FnTokUptoCardSaid : Prop := Claim7.holds Tryd.pinned (.plain (OpenSpec.upto fnTokSpec)) fnTokUptoCard

/-- THE SECOND FORM's CARD OF 'laws.FnTokSpaces'. -/
def fnTokSpacesUptoCard : Claim7 := { stood := { row := fnTokSpacesUptoRow, standIns := [], harness := (true, "a1bc6c4baf4cda0ed1f600efcfcb8cf09fbeaa954d5b416ff310bf5cfcf57da0"), looks := true }, kinds := [], alts := [], laidByText := true, laidKinds := [.data, .data, .data, .sentinel, .sentinel], laidTests := true, laidLooks := .later }
def FnTokSpacesUptoCardSaid : Prop := Claim7.holds Tryd.pinned (.plain (OpenSpec.upto fnTokSpacesSpec)) fnTokSpacesUptoCard
end Rows
end Go.Proofs.YtlhmebdljamgkaaDoor
