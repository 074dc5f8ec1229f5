/-
  DERIVED. GIVEN WITH THE SEED: THE CARDS: each row of YtmdnlehoeilmfaaGreatDoorRows.lean that lists a variable, with what it lists TIED to the program's text (the seventh form; the later family's looks); each row that meets fmt, with fmt's text TOLD by the authors' own Lean function (tested against real Go, not proved from fmt's source: count such statements apart). THE CARD IS WHAT COUNTS. Prove the row's statement (the work); the ties are given (YtmdnlehoeilmfaaGreatDoorTie.lean); close each card by the builder's one call (the guide's Derived/Test/ToyasCard.lean, 'card_holds'). Laid BY PROGRAM, IN A SANDBOX (cutbox-door.mjs). By AI agents, Wed Nov 11 2026. No macro, syntax, notation, axiom, sorry.
-/
import Derived.Test.YtmdnlehoeilmfaaGreatDoorRows
import GoSem.ClaimSeven
namespace Go.Proofs.YtmdnlehoeilmfaaGreatDoor
namespace Rows

/-- THE TIED CARD OF 'laws.FnExactDocAt'. -/
def fnExactDocAtCard : Claim7 := { stood := { row := fnExactDocAtRow, standIns := [], harness := (true, "f2d5f704dd92e38070b2f410489bb433431c5289e9f17c9fbafd5ce10abb5c58"), looks := false }, kinds := [], alts := [], laidByText := true, laidKinds := [.data, .pinned], laidTests := true, laidLooks := .later }
def FnExactDocAtCardSaid : Prop := Claim7.holds Tryz.pinned (.plain (OpenSpec.ofChange fnExactDocAtSpec)) fnExactDocAtCard

/-- THE TIED CARD OF 'laws.FnExactDocSince'. -/
def fnExactDocSinceCard : Claim7 := { stood := { row := fnExactDocSinceRow, standIns := [], harness := (true, "f2d5f704dd92e38070b2f410489bb433431c5289e9f17c9fbafd5ce10abb5c58"), looks := false }, kinds := [], alts := [], laidByText := true, laidKinds := [.data, .pinned], laidTests := true, laidLooks := .later }
def FnExactDocSinceCardSaid : Prop := Claim7.holds Tryz.pinned (.plain (OpenSpec.ofChange fnExactDocSinceSpec)) fnExactDocSinceCard

/-- THE TIED CARD OF 'laws.FnExactDocMember'. -/
def fnExactDocMemberCard : Claim7 := { stood := { row := fnExactDocMemberRow, standIns := [], harness := (true, "f2d5f704dd92e38070b2f410489bb433431c5289e9f17c9fbafd5ce10abb5c58"), looks := false }, kinds := [], alts := [], laidByText := true, laidKinds := [.data, .pinned], laidTests := true, laidLooks := .later }
def FnExactDocMemberCardSaid : Prop := Claim7.holds Tryz.pinned (.plain (OpenSpec.ofChange fnExactDocMemberSpec)) fnExactDocMemberCard

/-- THE TIED CARD OF 'laws.FnExactDocTick'. -/
def fnExactDocTickCard : Claim7 := { stood := { row := fnExactDocTickRow, standIns := [], harness := (true, "f2d5f704dd92e38070b2f410489bb433431c5289e9f17c9fbafd5ce10abb5c58"), looks := false }, kinds := [], alts := [], laidByText := true, laidKinds := [.data, .pinned], laidTests := true, laidLooks := .later }
def FnExactDocTickCardSaid : Prop := Claim7.holds Tryz.pinned (.plain (OpenSpec.ofChange fnExactDocTickSpec)) fnExactDocTickCard

/-- THE TIED CARD OF 'laws.FnExactDocPlan'. -/
def fnExactDocPlanCard : Claim7 := { stood := { row := fnExactDocPlanRow, standIns := [], harness := (true, "f2d5f704dd92e38070b2f410489bb433431c5289e9f17c9fbafd5ce10abb5c58"), looks := false }, kinds := [], alts := [], laidByText := true, laidKinds := [.data, .pinned], laidTests := true, laidLooks := .later }
def FnExactDocPlanCardSaid : Prop := Claim7.holds Tryz.pinned (.plain (OpenSpec.ofChange fnExactDocPlanSpec)) fnExactDocPlanCard

/-- THE TIED CARD OF 'laws.FnExactMachOk'. -/
def fnExactMachOkCard : Claim7 := { stood := { row := fnExactMachOkRow, standIns := [], harness := (true, "f2d5f704dd92e38070b2f410489bb433431c5289e9f17c9fbafd5ce10abb5c58"), looks := false }, kinds := [], alts := [], laidByText := true, laidKinds := [.data, .pinned], laidTests := true, laidLooks := .later }
def FnExactMachOkCardSaid : Prop := Claim7.holds Tryz.pinned (.plain (OpenSpec.ofChange fnExactMachOkSpec)) fnExactMachOkCard

/-- THE TIED CARD OF 'laws.FnExactMachIdle'. -/
def fnExactMachIdleCard : Claim7 := { stood := { row := fnExactMachIdleRow, standIns := [], harness := (true, "f2d5f704dd92e38070b2f410489bb433431c5289e9f17c9fbafd5ce10abb5c58"), looks := false }, kinds := [], alts := [], laidByText := true, laidKinds := [.data, .pinned], laidTests := true, laidLooks := .later }
def FnExactMachIdleCardSaid : Prop := Claim7.holds Tryz.pinned (.plain (OpenSpec.ofChange fnExactMachIdleSpec)) fnExactMachIdleCard

/-- THE TIED CARD OF 'laws.FnExactMachOp'. -/
def fnExactMachOpCard : Claim7 := { stood := { row := fnExactMachOpRow, standIns := [], harness := (true, "f2d5f704dd92e38070b2f410489bb433431c5289e9f17c9fbafd5ce10abb5c58"), looks := false }, kinds := [], alts := [], laidByText := true, laidKinds := [.data, .pinned], laidTests := true, laidLooks := .later }
def FnExactMachOpCardSaid : Prop := Claim7.holds Tryz.pinned (.plain (OpenSpec.ofChange fnExactMachOpSpec)) fnExactMachOpCard

/-- THE SECOND FORM's CARD OF 'laws.FnExactDocAt'. -/
def fnExactDocAtUptoCard : Claim7 := { stood := { row := fnExactDocAtUptoRow, standIns := [], harness := (true, "f2d5f704dd92e38070b2f410489bb433431c5289e9f17c9fbafd5ce10abb5c58"), looks := false }, kinds := [], alts := [], laidByText := true, laidKinds := [.data, .pinned], laidTests := true, laidLooks := .later }
def FnExactDocAtUptoCardSaid : Prop := Claim7.holds Tryz.pinned (.plain (OpenSpec.upto fnExactDocAtSpec)) fnExactDocAtUptoCard

/-- THE SECOND FORM's CARD OF 'laws.FnExactDocSince'. -/
def fnExactDocSinceUptoCard : Claim7 := { stood := { row := fnExactDocSinceUptoRow, standIns := [], harness := (true, "f2d5f704dd92e38070b2f410489bb433431c5289e9f17c9fbafd5ce10abb5c58"), looks := false }, kinds := [], alts := [], laidByText := true, laidKinds := [.data, .pinned], laidTests := true, laidLooks := .later }
def FnExactDocSinceUptoCardSaid : Prop := Claim7.holds Tryz.pinned (.plain (OpenSpec.upto fnExactDocSinceSpec)) fnExactDocSinceUptoCard

/-- THE SECOND FORM's CARD OF 'laws.FnExactDocMember'. -/
def fnExactDocMemberUptoCard : Claim7 := { stood := { row := fnExactDocMemberUptoRow, standIns := [], harness := (true, "f2d5f704dd92e38070b2f410489bb433431c5289e9f17c9fbafd5ce10abb5c58"), looks := false }, kinds := [], alts := [], laidByText := true, laidKinds := [.data, .pinned], laidTests := true, laidLooks := .later }
def FnExactDocMemberUptoCardSaid : Prop := Claim7.holds Tryz.pinned (.plain (OpenSpec.upto fnExactDocMemberSpec)) fnExactDocMemberUptoCard

/-- THE SECOND FORM's CARD OF 'laws.FnExactDocTick'. -/
def fnExactDocTickUptoCard : Claim7 := { stood := { row := fnExactDocTickUptoRow, standIns := [], harness := (true, "f2d5f704dd92e38070b2f410489bb433431c5289e9f17c9fbafd5ce10abb5c58"), looks := false }, kinds := [], alts := [], laidByText := true, laidKinds := [.data, .pinned], laidTests := true, laidLooks := .later }
def FnExactDocTickUptoCardSaid : Prop := Claim7.holds Tryz.pinned (.plain (OpenSpec.upto fnExactDocTickSpec)) fnExactDocTickUptoCard

/-- THE SECOND FORM's CARD OF 'laws.FnExactDocPlan'. -/
def fnExactDocPlanUptoCard : Claim7 := { stood := { row := fnExactDocPlanUptoRow, standIns := [], harness := (true, "f2d5f704dd92e38070b2f410489bb433431c5289e9f17c9fbafd5ce10abb5c58"), looks := false }, kinds := [], alts := [], laidByText := true, laidKinds := [.data, .pinned], laidTests := true, laidLooks := .later }
def FnExactDocPlanUptoCardSaid : Prop := Claim7.holds Tryz.pinned (.plain (OpenSpec.upto fnExactDocPlanSpec)) fnExactDocPlanUptoCard

/-- THE SECOND FORM's CARD OF 'laws.FnExactMachOk'. -/
def fnExactMachOkUptoCard : Claim7 := { stood := { row := fnExactMachOkUptoRow, standIns := [], harness := (true, "f2d5f704dd92e38070b2f410489bb433431c5289e9f17c9fbafd5ce10abb5c58"), looks := false }, kinds := [], alts := [], laidByText := true, laidKinds := [.data, .pinned], laidTests := true, laidLooks := .later }
def FnExactMachOkUptoCardSaid : Prop := Claim7.holds Tryz.pinned (.plain (OpenSpec.upto fnExactMachOkSpec)) fnExactMachOkUptoCard

/-- THE SECOND FORM's CARD OF 'laws.FnExactMachIdle'. -/
def fnExactMachIdleUptoCard : Claim7 := { stood := { row := fnExactMachIdleUptoRow, standIns := [], harness := (true, "f2d5f704dd92e38070b2f410489bb433431c5289e9f17c9fbafd5ce10abb5c58"), looks := false }, kinds := [], alts := [], laidByText := true, laidKinds := [.data, .pinned], laidTests := true, laidLooks := .later }
def FnExactMachIdleUptoCardSaid : Prop := Claim7.holds Tryz.pinned (.plain (OpenSpec.upto fnExactMachIdleSpec)) fnExactMachIdleUptoCard

/-- THE SECOND FORM's CARD OF 'laws.FnExactMachOp'. -/
def fnExactMachOpUptoCard : Claim7 := { stood := { row := fnExactMachOpUptoRow, standIns := [], harness := (true, "f2d5f704dd92e38070b2f410489bb433431c5289e9f17c9fbafd5ce10abb5c58"), looks := false }, kinds := [], alts := [], laidByText := true, laidKinds := [.data, .pinned], laidTests := true, laidLooks := .later }
def FnExactMachOpUptoCardSaid : Prop := Claim7.holds Tryz.pinned (.plain (OpenSpec.upto fnExactMachOpSpec)) fnExactMachOpUptoCard
end Rows
end Go.Proofs.YtmdnlehoeilmfaaGreatDoor
