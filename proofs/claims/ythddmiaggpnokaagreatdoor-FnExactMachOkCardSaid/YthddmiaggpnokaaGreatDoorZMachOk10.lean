/- MachOk: parts RowFMachOk, packed by squash.py. -/
import Derived.Test.YthddmiaggpnokaaGreatDoorRows
import Derived.WalkKit
import Derived.ProofKit
import Derived.OpenShut
import Derived.ShutString
import Derived.ChangeOld
import Derived.Below
import Derived.SizedLaws
import Derived.Test.YthddmiaggpnokaaGreatDoorCards
import Derived.Test.YthddmiaggpnokaaGreatDoorTie
import Derived.Deep.DeepHandedRow
import Derived.Lib.LaidTab
import Derived.Test.YthddmiaggpnokaaGreatDoorZMachOk0
import Derived.Test.YthddmiaggpnokaaGreatDoorZMachOk1
import Derived.Test.YthddmiaggpnokaaGreatDoorZMachOk2
import Derived.Test.YthddmiaggpnokaaGreatDoorZMachOk3
import Derived.Test.YthddmiaggpnokaaGreatDoorZMachOk4
import Derived.Test.YthddmiaggpnokaaGreatDoorZMachOk5
import Derived.Test.YthddmiaggpnokaaGreatDoorZMachOk6
import Derived.Test.YthddmiaggpnokaaGreatDoorZMachOk7
import Derived.Test.YthddmiaggpnokaaGreatDoorZMachOk8
import Derived.Test.YthddmiaggpnokaaGreatDoorZMachOk9
set_option linter.unusedVariables false
set_option linter.unusedSimpArgs false
section
namespace Go.Proofs.YthddmiaggpnokaaGreatDoor.fnExactMachOk
open Go.ChangeShapes Go.WideShapes Go.ChangeAt Go.RowKit
set_option linter.unusedVariables false
set_option maxRecDepth 100000
theorem avK {a b : Bool} (h1 : a = true) (h2 : b = true) : (a && b) = true := by rw [h1, h2]; rfl
set_option maxHeartbeats 40000000 in
theorem closed : joinedFacts Tryz.prog 3 Tryz.f3 (OpenSpec.ofChange Rows.fnExactMachOkSpec).bare Rows.fnExactMachOkRow = true := by
 unfold joinedFacts
 repeat' with_reducible refine avK ?_ ?_
 all_goals as_aux_lemma => kernel_rfl
end Go.Proofs.YthddmiaggpnokaaGreatDoor.fnExactMachOk
end
