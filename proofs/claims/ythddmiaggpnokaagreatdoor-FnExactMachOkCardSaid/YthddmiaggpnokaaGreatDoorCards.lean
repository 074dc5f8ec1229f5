/-
  DERIVED. GIVEN WITH THE SEED: THE CARDS: each row of YthddmiaggpnokaaGreatDoorRows.lean that lists a variable, with what it lists TIED to the program's text (the seventh form; the later family's looks); each row that meets fmt, with fmt's text TOLD by the authors' own Lean function (tested against real Go, not proved from fmt's source: count such statements apart). THE CARD IS WHAT COUNTS. Prove the row's statement (the work); the ties are given (YthddmiaggpnokaaGreatDoorTie.lean); close each card by the builder's one call (the guide's Derived/Test/ToyasCard.lean, 'card_holds'). Laid BY PROGRAM, IN A SANDBOX (cutbox-door.mjs). By AI agents, Wed Nov 11 2026. No macro, syntax, notation, axiom, sorry.
-/
import Derived.Test.YthddmiaggpnokaaGreatDoorRows
import GoSem.ClaimSeven
namespace Go.Proofs.YthddmiaggpnokaaGreatDoor
namespace Rows

/-- THE TIED CARD OF 'laws.FnExactMachOk'. -/
def fnExactMachOkCard : Claim7 := { stood := { row := fnExactMachOkRow, standIns := [], harness := (true, "eee51f76b9a12a6036122f53f29b32a793ca3a68dfd6443ea7fc9d8a4a2a7f51"), looks := false }, kinds := [], alts := [], laidByText := true, laidKinds := [.data, .pinned], laidTests := true, laidLooks := .later }
def FnExactMachOkCardSaid : Prop := Claim7.holds Tryz.pinned (.plain (OpenSpec.ofChange fnExactMachOkSpec)) fnExactMachOkCard

/-- THE TIED CARD OF 'laws.FnExactMachIdle'. -/
def fnExactMachIdleCard : Claim7 := { stood := { row := fnExactMachIdleRow, standIns := [], harness := (true, "eee51f76b9a12a6036122f53f29b32a793ca3a68dfd6443ea7fc9d8a4a2a7f51"), looks := false }, kinds := [], alts := [], laidByText := true, laidKinds := [.data, .pinned], laidTests := true, laidLooks := .later }
def FnExactMachIdleCardSaid : Prop := Claim7.holds Tryz.pinned (.plain (OpenSpec.ofChange fnExactMachIdleSpec)) fnExactMachIdleCard

/-- THE TIED CARD OF 'laws.FnExactMachOp'. -/
def fnExactMachOpCard : Claim7 := { stood := { row := fnExactMachOpRow, standIns := [], harness := (true, "eee51f76b9a12a6036122f53f29b32a793ca3a68dfd6443ea7fc9d8a4a2a7f51"), looks := false }, kinds := [], alts := [], laidByText := true, laidKinds := [.data, .pinned], laidTests := true, laidLooks := .later }
def FnExactMachOpCardSaid : Prop := Claim7.holds Tryz.pinned (.plain (OpenSpec.ofChange fnExactMachOpSpec)) fnExactMachOpCard

/-- THE SECOND FORM's CARD OF 'laws.FnExactMachOk'. -/
def fnExactMachOkUptoCard : Claim7 := { stood := { row := fnExactMachOkUptoRow, standIns := [], harness := (true, "eee51f76b9a12a6036122f53f29b32a793ca3a68dfd6443ea7fc9d8a4a2a7f51"), looks := false }, kinds := [], alts := [], laidByText := true, laidKinds := [.data, .pinned], laidTests := true, laidLooks := .later }
def FnExactMachOkUptoCardSaid : Prop := Claim7.holds Tryz.pinned (.plain (OpenSpec.upto fnExactMachOkSpec)) fnExactMachOkUptoCard

/-- THE SECOND FORM's CARD OF 'laws.FnExactMachIdle'. -/
def fnExactMachIdleUptoCard : Claim7 := { stood := { row := fnExactMachIdleUptoRow, standIns := [], harness := (true, "eee51f76b9a12a6036122f53f29b32a793ca3a68dfd6443ea7fc9d8a4a2a7f51"), looks := false }, kinds := [], alts := [], laidByText := true, laidKinds := [.data, .pinned], laidTests := true, laidLooks := .later }
def FnExactMachIdleUptoCardSaid : Prop := Claim7.holds Tryz.pinned (.plain (OpenSpec.upto fnExactMachIdleSpec)) fnExactMachIdleUptoCard

/-- THE SECOND FORM's CARD OF 'laws.FnExactMachOp'. -/
def fnExactMachOpUptoCard : Claim7 := { stood := { row := fnExactMachOpUptoRow, standIns := [], harness := (true, "eee51f76b9a12a6036122f53f29b32a793ca3a68dfd6443ea7fc9d8a4a2a7f51"), looks := false }, kinds := [], alts := [], laidByText := true, laidKinds := [.data, .pinned], laidTests := true, laidLooks := .later }
def FnExactMachOpUptoCardSaid : Prop := Claim7.holds Tryz.pinned (.plain (OpenSpec.upto fnExactMachOpSpec)) fnExactMachOpUptoCard
end Rows
end Go.Proofs.YthddmiaggpnokaaGreatDoor
