/- Waits: parts RowFWaits, packed by squash.py. -/
import Derived.Test.YtiinphgjeafpnaaDoorRows
import Derived.WalkKit
import Derived.ProofKit
import Derived.OpenShut
import Derived.ShutString
import Derived.ChangeOld
import Derived.Below
import Derived.SizedLaws
import Derived.Test.YtiinphgjeafpnaaDoorCards
import Derived.Test.YtiinphgjeafpnaaDoorTie
import Derived.Deep.DeepHandedRow
import Derived.Lib.LaidTab
import Derived.Test.YtiinphgjeafpnaaDoorZWaits0
import Derived.Test.YtiinphgjeafpnaaDoorZWaits1
import Derived.Test.YtiinphgjeafpnaaDoorZWaits2
import Derived.Test.YtiinphgjeafpnaaDoorZWaits3
import Derived.Test.YtiinphgjeafpnaaDoorZWaits4
import Derived.Test.YtiinphgjeafpnaaDoorZWaits5
import Derived.Test.YtiinphgjeafpnaaDoorZWaits6
import Derived.Test.YtiinphgjeafpnaaDoorZWaits7
import Derived.Test.YtiinphgjeafpnaaDoorZWaits8
set_option linter.unusedVariables false
set_option linter.unusedSimpArgs false
section
/- The row of FnExactWaits: the law answers true, whatever the input. Printed by rowlaw.py, part 3. -/
namespace Go.Proofs.YtiinphgjeafpnaaDoor.fnExactWaits
open Go.ChangeShapes Go.WideShapes Go.ChangeAt Go.RowKit
set_option linter.unusedVariables false
set_option maxRecDepth 100000
theorem andT {a b : Bool} (h1 : a = true) (h2 : b = true) : (a && b) = true := by rw [h1, h2]; rfl
set_option maxHeartbeats 40000000 in
theorem closed : joinedFacts Tryd.prog 11 Tryd.f11 (OpenSpec.ofChange Rows.fnExactWaitsSpec).bare Rows.fnExactWaitsRow = true := by
  unfold joinedFacts
  repeat' with_reducible refine andT ?_ ?_
  all_goals as_aux_lemma => kernel_rfl
end Go.Proofs.YtiinphgjeafpnaaDoor.fnExactWaits
end
