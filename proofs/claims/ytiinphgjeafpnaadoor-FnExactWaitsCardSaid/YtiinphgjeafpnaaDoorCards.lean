/-
  DERIVED. GIVEN WITH THE SEED: THE CARDS: each row of YtiinphgjeafpnaaDoorRows.lean that lists a variable, with what it lists TIED to the program's text (the seventh form; the later family's looks); each row that meets fmt, with fmt's text TOLD by the authors' own Lean function (tested against real Go, not proved from fmt's source: count such statements apart). THE CARD IS WHAT COUNTS. Prove the row's statement (the work); the ties are given (YtiinphgjeafpnaaDoorTie.lean); close each card by the builder's one call (the guide's Derived/Test/ToyasCard.lean, 'card_holds'). Laid BY PROGRAM, IN A SANDBOX (cutbox-door.mjs). By AI agents, Wed Nov 11 2026. No macro, syntax, notation, axiom, sorry.
-/
import Derived.Test.YtiinphgjeafpnaaDoorRows
import GoSem.ClaimSeven
namespace Go.Proofs.YtiinphgjeafpnaaDoor
namespace Rows

/-- THE TIED CARD OF 'laws.FnExactReplyBytes'. -/
def fnExactReplyBytesCard : Claim7 := { stood := { row := fnExactReplyBytesRow, standIns := [], harness := (true, "c634a6c8380af35a479f070a3dc42b79f62a716c1fa0f6cdf0bb1786ddbf8318"), looks := false }, kinds := [], alts := [], laidByText := true, laidKinds := [.data, .pinned], laidTests := true, laidLooks := .later }
def FnExactReplyBytesCardSaid : Prop := Claim7.holds Tryd.pinned (.plain (OpenSpec.ofChange fnExactReplyBytesSpec)) fnExactReplyBytesCard

/-- THE TIED CARD OF 'laws.FnExactEditDo'. -/
def fnExactEditDoCard : Claim7 := { stood := { row := fnExactEditDoRow, standIns := [], harness := (true, "c634a6c8380af35a479f070a3dc42b79f62a716c1fa0f6cdf0bb1786ddbf8318"), looks := false }, kinds := [], alts := [], laidByText := true, laidKinds := [.data, .pinned], laidTests := true, laidLooks := .later }
def FnExactEditDoCardSaid : Prop := Claim7.holds Tryd.pinned (.plain (OpenSpec.ofChange fnExactEditDoSpec)) fnExactEditDoCard

/-- THE TIED CARD OF 'laws.FnExactReqParse'. -/
def fnExactReqParseCard : Claim7 := { stood := { row := fnExactReqParseRow, standIns := [], harness := (true, "c634a6c8380af35a479f070a3dc42b79f62a716c1fa0f6cdf0bb1786ddbf8318"), looks := false }, kinds := [], alts := [], laidByText := true, laidKinds := [.data, .pinned], laidTests := true, laidLooks := .later }
def FnExactReqParseCardSaid : Prop := Claim7.holds Tryd.pinned (.plain (OpenSpec.ofChange fnExactReqParseSpec)) fnExactReqParseCard

/-- THE TIED CARD OF 'laws.FnExactActOk'. -/
def fnExactActOkCard : Claim7 := { stood := { row := fnExactActOkRow, standIns := [], harness := (true, "c634a6c8380af35a479f070a3dc42b79f62a716c1fa0f6cdf0bb1786ddbf8318"), looks := false }, kinds := [], alts := [], laidByText := true, laidKinds := [.data, .pinned], laidTests := true, laidLooks := .later }
def FnExactActOkCardSaid : Prop := Claim7.holds Tryd.pinned (.plain (OpenSpec.ofChange fnExactActOkSpec)) fnExactActOkCard

/-- THE TIED CARD OF 'laws.FnExactReqBytes'. -/
def fnExactReqBytesCard : Claim7 := { stood := { row := fnExactReqBytesRow, standIns := [], harness := (true, "c634a6c8380af35a479f070a3dc42b79f62a716c1fa0f6cdf0bb1786ddbf8318"), looks := false }, kinds := [], alts := [], laidByText := true, laidKinds := [.data, .pinned], laidTests := true, laidLooks := .later }
def FnExactReqBytesCardSaid : Prop := Claim7.holds Tryd.pinned (.plain (OpenSpec.ofChange fnExactReqBytesSpec)) fnExactReqBytesCard

/-- THE TIED CARD OF 'laws.FnExactEditsDo'. -/
def fnExactEditsDoCard : Claim7 := { stood := { row := fnExactEditsDoRow, standIns := [], harness := (true, "c634a6c8380af35a479f070a3dc42b79f62a716c1fa0f6cdf0bb1786ddbf8318"), looks := false }, kinds := [], alts := [], laidByText := true, laidKinds := [.data, .pinned], laidTests := true, laidLooks := .later }
def FnExactEditsDoCardSaid : Prop := Claim7.holds Tryd.pinned (.plain (OpenSpec.ofChange fnExactEditsDoSpec)) fnExactEditsDoCard

/-- THE TIED CARD OF 'laws.FnExactRopeJoin'. -/
def fnExactRopeJoinCard : Claim7 := { stood := { row := fnExactRopeJoinRow, standIns := [], harness := (true, "c634a6c8380af35a479f070a3dc42b79f62a716c1fa0f6cdf0bb1786ddbf8318"), looks := false }, kinds := [], alts := [], laidByText := true, laidKinds := [.data, .pinned], laidTests := true, laidLooks := .later }
def FnExactRopeJoinCardSaid : Prop := Claim7.holds Tryd.pinned (.plain (OpenSpec.ofChange fnExactRopeJoinSpec)) fnExactRopeJoinCard

/-- THE TIED CARD OF 'laws.FnExactOutsOk'. -/
def fnExactOutsOkCard : Claim7 := { stood := { row := fnExactOutsOkRow, standIns := [], harness := (true, "c634a6c8380af35a479f070a3dc42b79f62a716c1fa0f6cdf0bb1786ddbf8318"), looks := false }, kinds := [], alts := [], laidByText := true, laidKinds := [.data, .pinned], laidTests := true, laidLooks := .later }
def FnExactOutsOkCardSaid : Prop := Claim7.holds Tryd.pinned (.plain (OpenSpec.ofChange fnExactOutsOkSpec)) fnExactOutsOkCard

/-- THE TIED CARD OF 'laws.FnExactWaits'. -/
def fnExactWaitsCard : Claim7 := { stood := { row := fnExactWaitsRow, standIns := [], harness := (true, "c634a6c8380af35a479f070a3dc42b79f62a716c1fa0f6cdf0bb1786ddbf8318"), looks := false }, kinds := [], alts := [], laidByText := true, laidKinds := [.data, .pinned], laidTests := true, laidLooks := .later }
def FnExactWaitsCardSaid : Prop := Claim7.holds Tryd.pinned (.plain (OpenSpec.ofChange fnExactWaitsSpec)) fnExactWaitsCard

/-- THE TIED CARD OF 'laws.FnExactDocNew'. -/
def fnExactDocNewCard : Claim7 := { stood := { row := fnExactDocNewRow, standIns := [], harness := (true, "c634a6c8380af35a479f070a3dc42b79f62a716c1fa0f6cdf0bb1786ddbf8318"), looks := false }, kinds := [], alts := [], laidByText := true, laidKinds := [.data, .pinned], laidTests := true, laidLooks := .later }
def FnExactDocNewCardSaid : Prop := Claim7.holds Tryd.pinned (.plain (OpenSpec.ofChange fnExactDocNewSpec)) fnExactDocNewCard

/-- THE TIED CARD OF 'laws.FnExactMachNew'. -/
def fnExactMachNewCard : Claim7 := { stood := { row := fnExactMachNewRow, standIns := [], harness := (true, "c634a6c8380af35a479f070a3dc42b79f62a716c1fa0f6cdf0bb1786ddbf8318"), looks := false }, kinds := [], alts := [], laidByText := true, laidKinds := [.data, .pinned], laidTests := true, laidLooks := .later }
def FnExactMachNewCardSaid : Prop := Claim7.holds Tryd.pinned (.plain (OpenSpec.ofChange fnExactMachNewSpec)) fnExactMachNewCard

/-- THE SECOND FORM's CARD OF 'laws.FnExactReplyBytes'. -/
def fnExactReplyBytesUptoCard : Claim7 := { stood := { row := fnExactReplyBytesUptoRow, standIns := [], harness := (true, "c634a6c8380af35a479f070a3dc42b79f62a716c1fa0f6cdf0bb1786ddbf8318"), looks := false }, kinds := [], alts := [], laidByText := true, laidKinds := [.data, .pinned], laidTests := true, laidLooks := .later }
def FnExactReplyBytesUptoCardSaid : Prop := Claim7.holds Tryd.pinned (.plain (OpenSpec.upto fnExactReplyBytesSpec)) fnExactReplyBytesUptoCard

/-- THE SECOND FORM's CARD OF 'laws.FnExactEditDo'. -/
def fnExactEditDoUptoCard : Claim7 := { stood := { row := fnExactEditDoUptoRow, standIns := [], harness := (true, "c634a6c8380af35a479f070a3dc42b79f62a716c1fa0f6cdf0bb1786ddbf8318"), looks := false }, kinds := [], alts := [], laidByText := true, laidKinds := [.data, .pinned], laidTests := true, laidLooks := .later }
def FnExactEditDoUptoCardSaid : Prop := Claim7.holds Tryd.pinned (.plain (OpenSpec.upto fnExactEditDoSpec)) fnExactEditDoUptoCard

/-- THE SECOND FORM's CARD OF 'laws.FnExactReqParse'. -/
def fnExactReqParseUptoCard : Claim7 := { stood := { row := fnExactReqParseUptoRow, standIns := [], harness := (true, "c634a6c8380af35a479f070a3dc42b79f62a716c1fa0f6cdf0bb1786ddbf8318"), looks := false }, kinds := [], alts := [], laidByText := true, laidKinds := [.data, .pinned], laidTests := true, laidLooks := .later }
def FnExactReqParseUptoCardSaid : Prop := Claim7.holds Tryd.pinned (.plain (OpenSpec.upto fnExactReqParseSpec)) fnExactReqParseUptoCard

/-- THE SECOND FORM's CARD OF 'laws.FnExactActOk'. -/
def fnExactActOkUptoCard : Claim7 := { stood := { row := fnExactActOkUptoRow, standIns := [], harness := (true, "c634a6c8380af35a479f070a3dc42b79f62a716c1fa0f6cdf0bb1786ddbf8318"), looks := false }, kinds := [], alts := [], laidByText := true, laidKinds := [.data, .pinned], laidTests := true, laidLooks := .later }
def FnExactActOkUptoCardSaid : Prop := Claim7.holds Tryd.pinned (.plain (OpenSpec.upto fnExactActOkSpec)) fnExactActOkUptoCard

/-- THE SECOND FORM's CARD OF 'laws.FnExactReqBytes'. -/
def fnExactReqBytesUptoCard : Claim7 := { stood := { row := fnExactReqBytesUptoRow, standIns := [], harness := (true, "c634a6c8380af35a479f070a3dc42b79f62a716c1fa0f6cdf0bb1786ddbf8318"), looks := false }, kinds := [], alts := [], laidByText := true, laidKinds := [.data, .pinned], laidTests := true, laidLooks := .later }
def FnExactReqBytesUptoCardSaid : Prop := Claim7.holds Tryd.pinned (.plain (OpenSpec.upto fnExactReqBytesSpec)) fnExactReqBytesUptoCard

/-- THE SECOND FORM's CARD OF 'laws.FnExactEditsDo'. -/
def fnExactEditsDoUptoCard : Claim7 := { stood := { row := fnExactEditsDoUptoRow, standIns := [], harness := (true, "c634a6c8380af35a479f070a3dc42b79f62a716c1fa0f6cdf0bb1786ddbf8318"), looks := false }, kinds := [], alts := [], laidByText := true, laidKinds := [.data, .pinned], laidTests := true, laidLooks := .later }
def FnExactEditsDoUptoCardSaid : Prop := Claim7.holds Tryd.pinned (.plain (OpenSpec.upto fnExactEditsDoSpec)) fnExactEditsDoUptoCard

/-- THE SECOND FORM's CARD OF 'laws.FnExactRopeJoin'. -/
def fnExactRopeJoinUptoCard : Claim7 := { stood := { row := fnExactRopeJoinUptoRow, standIns := [], harness := (true, "c634a6c8380af35a479f070a3dc42b79f62a716c1fa0f6cdf0bb1786ddbf8318"), looks := false }, kinds := [], alts := [], laidByText := true, laidKinds := [.data, .pinned], laidTests := true, laidLooks := .later }
def FnExactRopeJoinUptoCardSaid : Prop := Claim7.holds Tryd.pinned (.plain (OpenSpec.upto fnExactRopeJoinSpec)) fnExactRopeJoinUptoCard

/-- THE SECOND FORM's CARD OF 'laws.FnExactOutsOk'. -/
def fnExactOutsOkUptoCard : Claim7 := { stood := { row := fnExactOutsOkUptoRow, standIns := [], harness := (true, "c634a6c8380af35a479f070a3dc42b79f62a716c1fa0f6cdf0bb1786ddbf8318"), looks := false }, kinds := [], alts := [], laidByText := true, laidKinds := [.data, .pinned], laidTests := true, laidLooks := .later }
def FnExactOutsOkUptoCardSaid : Prop := Claim7.holds Tryd.pinned (.plain (OpenSpec.upto fnExactOutsOkSpec)) fnExactOutsOkUptoCard

/-- THE SECOND FORM's CARD OF 'laws.FnExactWaits'. -/
def fnExactWaitsUptoCard : Claim7 := { stood := { row := fnExactWaitsUptoRow, standIns := [], harness := (true, "c634a6c8380af35a479f070a3dc42b79f62a716c1fa0f6cdf0bb1786ddbf8318"), looks := false }, kinds := [], alts := [], laidByText := true, laidKinds := [.data, .pinned], laidTests := true, laidLooks := .later }
def FnExactWaitsUptoCardSaid : Prop := Claim7.holds Tryd.pinned (.plain (OpenSpec.upto fnExactWaitsSpec)) fnExactWaitsUptoCard

/-- THE SECOND FORM's CARD OF 'laws.FnExactDocNew'. -/
def fnExactDocNewUptoCard : Claim7 := { stood := { row := fnExactDocNewUptoRow, standIns := [], harness := (true, "c634a6c8380af35a479f070a3dc42b79f62a716c1fa0f6cdf0bb1786ddbf8318"), looks := false }, kinds := [], alts := [], laidByText := true, laidKinds := [.data, .pinned], laidTests := true, laidLooks := .later }
def FnExactDocNewUptoCardSaid : Prop := Claim7.holds Tryd.pinned (.plain (OpenSpec.upto fnExactDocNewSpec)) fnExactDocNewUptoCard

/-- THE SECOND FORM's CARD OF 'laws.FnExactMachNew'. -/
def fnExactMachNewUptoCard : Claim7 := { stood := { row := fnExactMachNewUptoRow, standIns := [], harness := (true, "c634a6c8380af35a479f070a3dc42b79f62a716c1fa0f6cdf0bb1786ddbf8318"), looks := false }, kinds := [], alts := [], laidByText := true, laidKinds := [.data, .pinned], laidTests := true, laidLooks := .later }
def FnExactMachNewUptoCardSaid : Prop := Claim7.holds Tryd.pinned (.plain (OpenSpec.upto fnExactMachNewSpec)) fnExactMachNewUptoCard
end Rows
end Go.Proofs.YtiinphgjeafpnaaDoor
