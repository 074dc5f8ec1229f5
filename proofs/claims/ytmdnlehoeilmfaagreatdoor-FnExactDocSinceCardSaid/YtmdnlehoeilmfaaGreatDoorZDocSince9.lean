/- DocSince: parts RowFDocSince, packed by squash.py. -/
import Derived.Test.YtmdnlehoeilmfaaGreatDoorRows
import Derived.WalkKit
import Derived.ProofKit
import Derived.OpenShut
import Derived.ShutString
import Derived.ChangeOld
import Derived.Below
import Derived.SizedLaws
import Derived.Test.YtmdnlehoeilmfaaGreatDoorCards
import Derived.Test.YtmdnlehoeilmfaaGreatDoorTie
import Derived.Deep.DeepHandedRow
import Derived.Lib.LaidTab
import Derived.Test.YtmdnlehoeilmfaaGreatDoorZDocSince0
import Derived.Test.YtmdnlehoeilmfaaGreatDoorZDocSince1
import Derived.Test.YtmdnlehoeilmfaaGreatDoorZDocSince2
import Derived.Test.YtmdnlehoeilmfaaGreatDoorZDocSince3
import Derived.Test.YtmdnlehoeilmfaaGreatDoorZDocSince4
import Derived.Test.YtmdnlehoeilmfaaGreatDoorZDocSince5
import Derived.Test.YtmdnlehoeilmfaaGreatDoorZDocSince6
import Derived.Test.YtmdnlehoeilmfaaGreatDoorZDocSince7
import Derived.Test.YtmdnlehoeilmfaaGreatDoorZDocSince8
set_option linter.unusedVariables false
set_option linter.unusedSimpArgs false
section
/- The row of FnExactDocSince: the law answers true, whatever the input. Printed by rowlaw.py, part 3. -/
namespace Go.Proofs.YtmdnlehoeilmfaaGreatDoor.fnExactDocSince
open Go.ChangeShapes Go.WideShapes Go.ChangeAt Go.RowKit
set_option linter.unusedVariables false
set_option maxRecDepth 100000
theorem andT {a b : Bool} (h1 : a = true) (h2 : b = true) : (a && b) = true := by rw [h1, h2]; rfl
set_option maxHeartbeats 40000000 in
theorem closed : joinedFacts Tryz.prog 4 Tryz.f4 (OpenSpec.ofChange Rows.fnExactDocSinceSpec).bare Rows.fnExactDocSinceRow = true := by
  unfold joinedFacts
  repeat' with_reducible refine andT ?_ ?_
  all_goals as_aux_lemma => kernel_rfl
end Go.Proofs.YtmdnlehoeilmfaaGreatDoor.fnExactDocSince
end
