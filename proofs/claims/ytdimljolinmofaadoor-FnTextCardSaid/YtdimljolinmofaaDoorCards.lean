/-
  DERIVED. GIVEN WITH THE SEED: THE CARDS: each row of YtdimljolinmofaaDoorRows.lean that lists a variable, with what it lists TIED to the program's text (the seventh form; the later family's looks); each row that meets fmt, with fmt's text TOLD by the authors' own Lean function (tested against real Go, not proved from fmt's source: count such statements apart). THE CARD IS WHAT COUNTS. Prove the row's statement (the work); the ties are given (YtdimljolinmofaaDoorTie.lean); close each card by the builder's one call (the guide's Derived/Test/ToyasCard.lean, 'card_holds'). Laid BY PROGRAM, IN A SANDBOX (cutbox-door.mjs). By AI agents, Wed Nov 11 2026. No macro, syntax, notation, axiom, sorry.
-/
import Derived.Test.YtdimljolinmofaaDoorRows
import GoSem.ClaimSeven
namespace Go.Proofs.YtdimljolinmofaaDoor
namespace Rows

/-- THE TIED CARD OF 'laws.FnPosLess'. -/
def fnPosLessCard : Claim7 := { stood := { row := fnPosLessRow, standIns := [], harness := (true, "cc1cb8674ea1730d6645c432798953f6600cd1993c272b64f5ac0bcdc88f25c4"), looks := false }, kinds := [], alts := [], laidByText := true, laidKinds := [.data, .pinned], laidTests := true, laidLooks := .later }
def FnPosLessCardSaid : Prop := Claim7.holds Tryd.pinned (.plain (OpenSpec.ofChange fnPosLessSpec)) fnPosLessCard

/-- THE TIED CARD OF 'laws.FnExactPosOff'. -/
def fnExactPosOffCard : Claim7 := { stood := { row := fnExactPosOffRow, standIns := [], harness := (true, "cc1cb8674ea1730d6645c432798953f6600cd1993c272b64f5ac0bcdc88f25c4"), looks := false }, kinds := [], alts := [], laidByText := true, laidKinds := [.data, .pinned], laidTests := true, laidLooks := .later }
def FnExactPosOffCardSaid : Prop := Claim7.holds Tryd.pinned (.plain (OpenSpec.ofChange fnExactPosOffSpec)) fnExactPosOffCard

/-- THE TIED CARD OF 'laws.FnExactTextLines'. -/
def fnExactTextLinesCard : Claim7 := { stood := { row := fnExactTextLinesRow, standIns := [], harness := (true, "cc1cb8674ea1730d6645c432798953f6600cd1993c272b64f5ac0bcdc88f25c4"), looks := false }, kinds := [], alts := [], laidByText := true, laidKinds := [.data, .pinned], laidTests := true, laidLooks := .later }
def FnExactTextLinesCardSaid : Prop := Claim7.holds Tryd.pinned (.plain (OpenSpec.ofChange fnExactTextLinesSpec)) fnExactTextLinesCard

/-- THE TIED CARD OF 'laws.FnTextCat'. -/
def fnTextCatCard : Claim7 := { stood := { row := fnTextCatRow, standIns := [], harness := (true, "cc1cb8674ea1730d6645c432798953f6600cd1993c272b64f5ac0bcdc88f25c4"), looks := false }, kinds := [], alts := [], laidByText := true, laidKinds := [.data, .pinned], laidTests := true, laidLooks := .later }
def FnTextCatCardSaid : Prop := Claim7.holds Tryd.pinned (.plain (OpenSpec.ofChange fnTextCatSpec)) fnTextCatCard

/-- THE TIED CARD OF 'laws.FnPosAll'. -/
def fnPosAllCard : Claim7 := { stood := { row := fnPosAllRow, standIns := [], harness := (true, "cc1cb8674ea1730d6645c432798953f6600cd1993c272b64f5ac0bcdc88f25c4"), looks := false }, kinds := [], alts := [], laidByText := true, laidKinds := [.data, .pinned], laidTests := true, laidLooks := .later }
def FnPosAllCardSaid : Prop := Claim7.holds Tryd.pinned (.plain (OpenSpec.ofChange fnPosAllSpec)) fnPosAllCard

/-- THE TIED CARD OF 'laws.FnPos'. -/
def fnPosCard : Claim7 := { stood := { row := fnPosRow, standIns := [], harness := (true, "cc1cb8674ea1730d6645c432798953f6600cd1993c272b64f5ac0bcdc88f25c4"), looks := false }, kinds := [], alts := [], laidByText := true, laidKinds := [.data, .pinned], laidTests := true, laidLooks := .later }
def FnPosCardSaid : Prop := Claim7.holds Tryd.pinned (.plain (OpenSpec.ofChange fnPosSpec)) fnPosCard

/-- THE TIED CARD OF 'laws.FnPosOff'. -/
def fnPosOffCard : Claim7 := { stood := { row := fnPosOffRow, standIns := [], harness := (true, "cc1cb8674ea1730d6645c432798953f6600cd1993c272b64f5ac0bcdc88f25c4"), looks := false }, kinds := [], alts := [], laidByText := true, laidKinds := [.data, .pinned], laidTests := true, laidLooks := .later }
def FnPosOffCardSaid : Prop := Claim7.holds Tryd.pinned (.plain (OpenSpec.ofChange fnPosOffSpec)) fnPosOffCard

/-- THE TIED CARD OF 'laws.FnText'. -/
def fnTextCard : Claim7 := { stood := { row := fnTextRow, standIns := [], harness := (true, "cc1cb8674ea1730d6645c432798953f6600cd1993c272b64f5ac0bcdc88f25c4"), looks := false }, kinds := [], alts := [], laidByText := true, laidKinds := [.data, .pinned], laidTests := true, laidLooks := .later }
def FnTextCardSaid : Prop := Claim7.holds Tryd.pinned (.plain (OpenSpec.ofChange fnTextSpec)) fnTextCard

/-- THE SECOND FORM's CARD OF 'laws.FnPosLess'. -/
def fnPosLessUptoCard : Claim7 := { stood := { row := fnPosLessUptoRow, standIns := [], harness := (true, "cc1cb8674ea1730d6645c432798953f6600cd1993c272b64f5ac0bcdc88f25c4"), looks := false }, kinds := [], alts := [], laidByText := true, laidKinds := [.data, .pinned], laidTests := true, laidLooks := .later }
def FnPosLessUptoCardSaid : Prop := Claim7.holds Tryd.pinned (.plain (OpenSpec.upto fnPosLessSpec)) fnPosLessUptoCard

/-- THE SECOND FORM's CARD OF 'laws.FnExactPosOff'. -/
def fnExactPosOffUptoCard : Claim7 := { stood := { row := fnExactPosOffUptoRow, standIns := [], harness := (true, "cc1cb8674ea1730d6645c432798953f6600cd1993c272b64f5ac0bcdc88f25c4"), looks := false }, kinds := [], alts := [], laidByText := true, laidKinds := [.data, .pinned], laidTests := true, laidLooks := .later }
def FnExactPosOffUptoCardSaid : Prop := Claim7.holds Tryd.pinned (.plain (OpenSpec.upto fnExactPosOffSpec)) fnExactPosOffUptoCard

/-- THE SECOND FORM's CARD OF 'laws.FnExactTextLines'. -/
def fnExactTextLinesUptoCard : Claim7 := { stood := { row := fnExactTextLinesUptoRow, standIns := [], harness := (true, "cc1cb8674ea1730d6645c432798953f6600cd1993c272b64f5ac0bcdc88f25c4"), looks := false }, kinds := [], alts := [], laidByText := true, laidKinds := [.data, .pinned], laidTests := true, laidLooks := .later }
def FnExactTextLinesUptoCardSaid : Prop := Claim7.holds Tryd.pinned (.plain (OpenSpec.upto fnExactTextLinesSpec)) fnExactTextLinesUptoCard

/-- THE SECOND FORM's CARD OF 'laws.FnTextCat'. -/
def fnTextCatUptoCard : Claim7 := { stood := { row := fnTextCatUptoRow, standIns := [], harness := (true, "cc1cb8674ea1730d6645c432798953f6600cd1993c272b64f5ac0bcdc88f25c4"), looks := false }, kinds := [], alts := [], laidByText := true, laidKinds := [.data, .pinned], laidTests := true, laidLooks := .later }
def FnTextCatUptoCardSaid : Prop := Claim7.holds Tryd.pinned (.plain (OpenSpec.upto fnTextCatSpec)) fnTextCatUptoCard

/-- THE SECOND FORM's CARD OF 'laws.FnPosAll'. -/
def fnPosAllUptoCard : Claim7 := { stood := { row := fnPosAllUptoRow, standIns := [], harness := (true, "cc1cb8674ea1730d6645c432798953f6600cd1993c272b64f5ac0bcdc88f25c4"), looks := false }, kinds := [], alts := [], laidByText := true, laidKinds := [.data, .pinned], laidTests := true, laidLooks := .later }
def FnPosAllUptoCardSaid : Prop := Claim7.holds Tryd.pinned (.plain (OpenSpec.upto fnPosAllSpec)) fnPosAllUptoCard

/-- THE SECOND FORM's CARD OF 'laws.FnPos'. -/
def fnPosUptoCard : Claim7 := { stood := { row := fnPosUptoRow, standIns := [], harness := (true, "cc1cb8674ea1730d6645c432798953f6600cd1993c272b64f5ac0bcdc88f25c4"), looks := false }, kinds := [], alts := [], laidByText := true, laidKinds := [.data, .pinned], laidTests := true, laidLooks := .later }
def FnPosUptoCardSaid : Prop := Claim7.holds Tryd.pinned (.plain (OpenSpec.upto fnPosSpec)) fnPosUptoCard

/-- THE SECOND FORM's CARD OF 'laws.FnPosOff'. -/
def fnPosOffUptoCard : Claim7 := { stood := { row := fnPosOffUptoRow, standIns := [], harness := (true, "cc1cb8674ea1730d6645c432798953f6600cd1993c272b64f5ac0bcdc88f25c4"), looks := false }, kinds := [], alts := [], laidByText := true, laidKinds := [.data, .pinned], laidTests := true, laidLooks := .later }
def FnPosOffUptoCardSaid : Prop := Claim7.holds Tryd.pinned (.plain (OpenSpec.upto fnPosOffSpec)) fnPosOffUptoCard

/-- THE SECOND FORM's CARD OF 'laws.FnText'. -/
def fnTextUptoCard : Claim7 := { stood := { row := fnTextUptoRow, standIns := [], harness := (true, "cc1cb8674ea1730d6645c432798953f6600cd1993c272b64f5ac0bcdc88f25c4"), looks := false }, kinds := [], alts := [], laidByText := true, laidKinds := [.data, .pinned], laidTests := true, laidLooks := .later }
def FnTextUptoCardSaid : Prop := Claim7.holds Tryd.pinned (.plain (OpenSpec.upto fnTextSpec)) fnTextUptoCard
end Rows
end Go.Proofs.YtdimljolinmofaaDoor
