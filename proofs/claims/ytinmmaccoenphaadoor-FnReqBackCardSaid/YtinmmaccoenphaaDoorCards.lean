/-
  DERIVED. GIVEN WITH THE SEED: THE CARDS: each row of YtinmmaccoenphaaDoorRows.lean that lists a variable, with what it lists TIED to the program's text (the seventh form; the later family's looks); each row that meets fmt, with fmt's text TOLD by the authors' own Lean function (tested against real Go, not proved from fmt's source: count such statements apart). THE CARD IS WHAT COUNTS. Prove the row's statement (the work); the ties are given (YtinmmaccoenphaaDoorTie.lean); close each card by the builder's one call (the guide's Derived/Test/ToyasCard.lean, 'card_holds'). Laid BY PROGRAM, IN A SANDBOX (cutbox-door.mjs). By AI agents, Wed Nov 11 2026. No macro, syntax, notation, axiom, sorry.
-/
import Derived.Test.YtinmmaccoenphaaDoorRows
import GoSem.ClaimSeven
namespace Go.Proofs.YtinmmaccoenphaaDoor
namespace Rows

/-- THE TIED CARD OF 'laws.FnRuneBack'. -/
def fnRuneBackCard : Claim7 := { stood := { row := fnRuneBackRow, standIns := [], harness := (true, "15babf8228ce3f07163e60b1ccbd40a76b4c9bf2fa6a4a0e99b519f6a26ba694"), looks := false }, kinds := [], alts := [], laidByText := true, laidKinds := [.data, .pinned], laidTests := true, laidLooks := .later }
def FnRuneBackCardSaid : Prop := Claim7.holds Tryd.pinned (.plain (OpenSpec.ofChange fnRuneBackSpec)) fnRuneBackCard

/-- THE TIED CARD OF 'laws.FnChunkFor'. -/
def fnChunkForCard : Claim7 := { stood := { row := fnChunkForRow, standIns := [], harness := (true, "15babf8228ce3f07163e60b1ccbd40a76b4c9bf2fa6a4a0e99b519f6a26ba694"), looks := false }, kinds := [], alts := [], laidByText := true, laidKinds := [.data, .pinned], laidTests := true, laidLooks := .later }
def FnChunkForCardSaid : Prop := Claim7.holds Tryd.pinned (.plain (OpenSpec.ofChange fnChunkForSpec)) fnChunkForCard

/-- THE TIED CARD OF 'laws.FnPlaces'. -/
def fnPlacesCard : Claim7 := { stood := { row := fnPlacesRow, standIns := [], harness := (true, "15babf8228ce3f07163e60b1ccbd40a76b4c9bf2fa6a4a0e99b519f6a26ba694"), looks := false }, kinds := [], alts := [], laidByText := true, laidKinds := [.data, .pinned], laidTests := true, laidLooks := .later }
def FnPlacesCardSaid : Prop := Claim7.holds Tryd.pinned (.plain (OpenSpec.ofChange fnPlacesSpec)) fnPlacesCard

/-- THE TIED CARD OF 'laws.FnReqBack'. -/
def fnReqBackCard : Claim7 := { stood := { row := fnReqBackRow, standIns := [], harness := (true, "15babf8228ce3f07163e60b1ccbd40a76b4c9bf2fa6a4a0e99b519f6a26ba694"), looks := false }, kinds := [], alts := [], laidByText := true, laidKinds := [.data, .pinned], laidTests := true, laidLooks := .later }
def FnReqBackCardSaid : Prop := Claim7.holds Tryd.pinned (.plain (OpenSpec.ofChange fnReqBackSpec)) fnReqBackCard

/-- THE TIED CARD OF 'laws.FnChunks'. -/
def fnChunksCard : Claim7 := { stood := { row := fnChunksRow, standIns := [], harness := (true, "15babf8228ce3f07163e60b1ccbd40a76b4c9bf2fa6a4a0e99b519f6a26ba694"), looks := false }, kinds := [], alts := [], laidByText := true, laidKinds := [.data, .pinned], laidTests := true, laidLooks := .later }
def FnChunksCardSaid : Prop := Claim7.holds Tryd.pinned (.plain (OpenSpec.ofChange fnChunksSpec)) fnChunksCard

/-- THE TIED CARD OF 'laws.FnLines'. -/
def fnLinesCard : Claim7 := { stood := { row := fnLinesRow, standIns := [], harness := (true, "15babf8228ce3f07163e60b1ccbd40a76b4c9bf2fa6a4a0e99b519f6a26ba694"), looks := false }, kinds := [], alts := [], laidByText := true, laidKinds := [.data, .pinned], laidTests := true, laidLooks := .later }
def FnLinesCardSaid : Prop := Claim7.holds Tryd.pinned (.plain (OpenSpec.ofChange fnLinesSpec)) fnLinesCard

/-- THE TIED CARD OF 'laws.FnRopeFind'. -/
def fnRopeFindCard : Claim7 := { stood := { row := fnRopeFindRow, standIns := [], harness := (true, "15babf8228ce3f07163e60b1ccbd40a76b4c9bf2fa6a4a0e99b519f6a26ba694"), looks := false }, kinds := [], alts := [], laidByText := true, laidKinds := [.data, .pinned], laidTests := true, laidLooks := .later }
def FnRopeFindCardSaid : Prop := Claim7.holds Tryd.pinned (.plain (OpenSpec.ofChange fnRopeFindSpec)) fnRopeFindCard

/-- THE SECOND FORM's CARD OF 'laws.FnRuneBack'. -/
def fnRuneBackUptoCard : Claim7 := { stood := { row := fnRuneBackUptoRow, standIns := [], harness := (true, "15babf8228ce3f07163e60b1ccbd40a76b4c9bf2fa6a4a0e99b519f6a26ba694"), looks := false }, kinds := [], alts := [], laidByText := true, laidKinds := [.data, .pinned], laidTests := true, laidLooks := .later }
def FnRuneBackUptoCardSaid : Prop := Claim7.holds Tryd.pinned (.plain (OpenSpec.upto fnRuneBackSpec)) fnRuneBackUptoCard

/-- THE SECOND FORM's CARD OF 'laws.FnChunkFor'. -/
def fnChunkForUptoCard : Claim7 := { stood := { row := fnChunkForUptoRow, standIns := [], harness := (true, "15babf8228ce3f07163e60b1ccbd40a76b4c9bf2fa6a4a0e99b519f6a26ba694"), looks := false }, kinds := [], alts := [], laidByText := true, laidKinds := [.data, .pinned], laidTests := true, laidLooks := .later }
def FnChunkForUptoCardSaid : Prop := Claim7.holds Tryd.pinned (.plain (OpenSpec.upto fnChunkForSpec)) fnChunkForUptoCard

/-- THE SECOND FORM's CARD OF 'laws.FnPlaces'. -/
def fnPlacesUptoCard : Claim7 := { stood := { row := fnPlacesUptoRow, standIns := [], harness := (true, "15babf8228ce3f07163e60b1ccbd40a76b4c9bf2fa6a4a0e99b519f6a26ba694"), looks := false }, kinds := [], alts := [], laidByText := true, laidKinds := [.data, .pinned], laidTests := true, laidLooks := .later }
def FnPlacesUptoCardSaid : Prop := Claim7.holds Tryd.pinned (.plain (OpenSpec.upto fnPlacesSpec)) fnPlacesUptoCard

/-- THE SECOND FORM's CARD OF 'laws.FnReqBack'. -/
def fnReqBackUptoCard : Claim7 := { stood := { row := fnReqBackUptoRow, standIns := [], harness := (true, "15babf8228ce3f07163e60b1ccbd40a76b4c9bf2fa6a4a0e99b519f6a26ba694"), looks := false }, kinds := [], alts := [], laidByText := true, laidKinds := [.data, .pinned], laidTests := true, laidLooks := .later }
def FnReqBackUptoCardSaid : Prop := Claim7.holds Tryd.pinned (.plain (OpenSpec.upto fnReqBackSpec)) fnReqBackUptoCard

/-- THE SECOND FORM's CARD OF 'laws.FnChunks'. -/
def fnChunksUptoCard : Claim7 := { stood := { row := fnChunksUptoRow, standIns := [], harness := (true, "15babf8228ce3f07163e60b1ccbd40a76b4c9bf2fa6a4a0e99b519f6a26ba694"), looks := false }, kinds := [], alts := [], laidByText := true, laidKinds := [.data, .pinned], laidTests := true, laidLooks := .later }
def FnChunksUptoCardSaid : Prop := Claim7.holds Tryd.pinned (.plain (OpenSpec.upto fnChunksSpec)) fnChunksUptoCard

/-- THE SECOND FORM's CARD OF 'laws.FnLines'. -/
def fnLinesUptoCard : Claim7 := { stood := { row := fnLinesUptoRow, standIns := [], harness := (true, "15babf8228ce3f07163e60b1ccbd40a76b4c9bf2fa6a4a0e99b519f6a26ba694"), looks := false }, kinds := [], alts := [], laidByText := true, laidKinds := [.data, .pinned], laidTests := true, laidLooks := .later }
def FnLinesUptoCardSaid : Prop := Claim7.holds Tryd.pinned (.plain (OpenSpec.upto fnLinesSpec)) fnLinesUptoCard

/-- THE SECOND FORM's CARD OF 'laws.FnRopeFind'. -/
def fnRopeFindUptoCard : Claim7 := { stood := { row := fnRopeFindUptoRow, standIns := [], harness := (true, "15babf8228ce3f07163e60b1ccbd40a76b4c9bf2fa6a4a0e99b519f6a26ba694"), looks := false }, kinds := [], alts := [], laidByText := true, laidKinds := [.data, .pinned], laidTests := true, laidLooks := .later }
def FnRopeFindUptoCardSaid : Prop := Claim7.holds Tryd.pinned (.plain (OpenSpec.upto fnRopeFindSpec)) fnRopeFindUptoCard
end Rows
end Go.Proofs.YtinmmaccoenphaaDoor
