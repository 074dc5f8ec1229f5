/- DocAt: parts RowFDocAt, packed by squash.py. -/
import Derived.Test.YtmdnlehoeilmfaaGreatDoorRows
import Derived.WalkKit
import Derived.ProofKit
import Derived.OpenShut
import Derived.ShutString
import Derived.ChangeOld
import Derived.Below
import Derived.SizedLaws
import Derived.Test.YtmdnlehoeilmfaaGreatDoorCards
import Derived.Test.YtmdnlehoeilmfaaGreatDoorTie
import Derived.Deep.DeepHandedRow
import Derived.Lib.LaidTab
import Derived.Test.YtmdnlehoeilmfaaGreatDoorZDocAt0
import Derived.Test.YtmdnlehoeilmfaaGreatDoorZDocAt1
import Derived.Test.YtmdnlehoeilmfaaGreatDoorZDocAt2
import Derived.Test.YtmdnlehoeilmfaaGreatDoorZDocAt3
import Derived.Test.YtmdnlehoeilmfaaGreatDoorZDocAt4
import Derived.Test.YtmdnlehoeilmfaaGreatDoorZDocAt5
import Derived.Test.YtmdnlehoeilmfaaGreatDoorZDocAt6
import Derived.Test.YtmdnlehoeilmfaaGreatDoorZDocAt7
import Derived.Test.YtmdnlehoeilmfaaGreatDoorZDocAt8
set_option linter.unusedVariables false
set_option linter.unusedSimpArgs false
section
/- The row of FnExactDocAt: the law answers true, whatever the input. Printed by rowlaw.py, part 3. -/
namespace Go.Proofs.YtmdnlehoeilmfaaGreatDoor.fnExactDocAt
open Go.ChangeShapes Go.WideShapes Go.ChangeAt Go.RowKit
set_option linter.unusedVariables false
set_option maxRecDepth 100000
theorem andT {a b : Bool} (h1 : a = true) (h2 : b = true) : (a && b) = true := by rw [h1, h2]; rfl
set_option maxHeartbeats 40000000 in
theorem closed : joinedFacts Tryz.prog 3 Tryz.f3 (OpenSpec.ofChange Rows.fnExactDocAtSpec).bare Rows.fnExactDocAtRow = true := by
  unfold joinedFacts
  repeat' with_reducible refine andT ?_ ?_
  all_goals as_aux_lemma => kernel_rfl
end Go.Proofs.YtmdnlehoeilmfaaGreatDoor.fnExactDocAt
end
