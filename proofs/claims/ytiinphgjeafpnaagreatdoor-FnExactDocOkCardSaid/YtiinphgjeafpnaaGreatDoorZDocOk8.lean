/- DocOk: parts RowFDocOk, packed by squash.py. -/
import Derived.Test.YtiinphgjeafpnaaGreatDoorRows
import Derived.WalkKit
import Derived.ProofKit
import Derived.OpenShut
import Derived.ShutString
import Derived.ChangeOld
import Derived.Below
import Derived.SizedLaws
import Derived.Test.YtiinphgjeafpnaaGreatDoorCards
import Derived.Test.YtiinphgjeafpnaaGreatDoorTie
import Derived.Deep.DeepHandedRow
import Derived.Lib.LaidTab
import Derived.Test.YtiinphgjeafpnaaGreatDoorZDocOk0
import Derived.Test.YtiinphgjeafpnaaGreatDoorZDocOk1
import Derived.Test.YtiinphgjeafpnaaGreatDoorZDocOk2
import Derived.Test.YtiinphgjeafpnaaGreatDoorZDocOk3
import Derived.Test.YtiinphgjeafpnaaGreatDoorZDocOk4
import Derived.Test.YtiinphgjeafpnaaGreatDoorZDocOk5
import Derived.Test.YtiinphgjeafpnaaGreatDoorZDocOk6
import Derived.Test.YtiinphgjeafpnaaGreatDoorZDocOk7
set_option linter.unusedVariables false
set_option linter.unusedSimpArgs false
section
/- The row of FnExactDocOk: the law answers true, whatever the input. Printed by rowlaw.py, part 3. -/
namespace Go.Proofs.YtiinphgjeafpnaaGreatDoor.fnExactDocOk
open Go.ChangeShapes Go.WideShapes Go.ChangeAt Go.RowKit
set_option linter.unusedVariables false
set_option maxRecDepth 100000
theorem andT {a b : Bool} (h1 : a = true) (h2 : b = true) : (a && b) = true := by rw [h1, h2]; rfl
set_option maxHeartbeats 40000000 in
theorem closed : joinedFacts Tryz.prog 3 Tryz.f3 (OpenSpec.ofChange Rows.fnExactDocOkSpec).bare Rows.fnExactDocOkRow = true := by
  unfold joinedFacts
  repeat' with_reducible refine andT ?_ ?_
  all_goals as_aux_lemma => kernel_rfl
end Go.Proofs.YtiinphgjeafpnaaGreatDoor.fnExactDocOk
end
