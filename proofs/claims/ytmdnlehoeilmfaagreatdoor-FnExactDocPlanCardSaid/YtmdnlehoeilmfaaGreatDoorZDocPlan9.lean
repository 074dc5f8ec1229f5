/- DocPlan: parts RowFDocPlan, packed by squash.py. -/
import Derived.Test.YtmdnlehoeilmfaaGreatDoorRows
import Derived.WalkKit
import Derived.ProofKit
import Derived.OpenShut
import Derived.ShutString
import Derived.ChangeOld
import Derived.Below
import Derived.SizedLaws
import Derived.Test.YtmdnlehoeilmfaaGreatDoorCards
import Derived.Test.YtmdnlehoeilmfaaGreatDoorTie
import Derived.Deep.DeepHandedRow
import Derived.Lib.LaidTab
import Derived.Test.YtmdnlehoeilmfaaGreatDoorZDocPlan0
import Derived.Test.YtmdnlehoeilmfaaGreatDoorZDocPlan1
import Derived.Test.YtmdnlehoeilmfaaGreatDoorZDocPlan2
import Derived.Test.YtmdnlehoeilmfaaGreatDoorZDocPlan3
import Derived.Test.YtmdnlehoeilmfaaGreatDoorZDocPlan4
import Derived.Test.YtmdnlehoeilmfaaGreatDoorZDocPlan5
import Derived.Test.YtmdnlehoeilmfaaGreatDoorZDocPlan6
import Derived.Test.YtmdnlehoeilmfaaGreatDoorZDocPlan7
import Derived.Test.YtmdnlehoeilmfaaGreatDoorZDocPlan8
set_option linter.unusedVariables false
set_option linter.unusedSimpArgs false
section
namespace Go.Proofs.YtmdnlehoeilmfaaGreatDoor.fnExactDocPlan
open Go.ChangeShapes Go.WideShapes Go.ChangeAt Go.RowKit
set_option linter.unusedVariables false
set_option maxRecDepth 100000
theorem ap4 {a b : Bool} (h1 : a = true) (h2 : b = true) : (a && b) = true := by rw [h1, h2]; rfl
set_option maxHeartbeats 40000000 in
theorem closed : joinedFacts Tryz.prog 7 Tryz.f7 (OpenSpec.ofChange Rows.fnExactDocPlanSpec).bare Rows.fnExactDocPlanRow = true := by
 unfold joinedFacts
 repeat' with_reducible refine ap4 ?_ ?_
 all_goals as_aux_lemma => kernel_rfl
end Go.Proofs.YtmdnlehoeilmfaaGreatDoor.fnExactDocPlan
end
