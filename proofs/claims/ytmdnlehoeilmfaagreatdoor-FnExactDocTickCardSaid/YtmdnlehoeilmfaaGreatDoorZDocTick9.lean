/- DocTick: parts RowFDocTick, packed by squash.py. -/
import Derived.Test.YtmdnlehoeilmfaaGreatDoorRows
import Derived.WalkKit
import Derived.ProofKit
import Derived.OpenShut
import Derived.ShutString
import Derived.ChangeOld
import Derived.Below
import Derived.SizedLaws
import Derived.Test.YtmdnlehoeilmfaaGreatDoorCards
import Derived.Test.YtmdnlehoeilmfaaGreatDoorTie
import Derived.Deep.DeepHandedRow
import Derived.Lib.LaidTab
import Derived.Test.YtmdnlehoeilmfaaGreatDoorZDocTick0
import Derived.Test.YtmdnlehoeilmfaaGreatDoorZDocTick1
import Derived.Test.YtmdnlehoeilmfaaGreatDoorZDocTick2
import Derived.Test.YtmdnlehoeilmfaaGreatDoorZDocTick3
import Derived.Test.YtmdnlehoeilmfaaGreatDoorZDocTick4
import Derived.Test.YtmdnlehoeilmfaaGreatDoorZDocTick5
import Derived.Test.YtmdnlehoeilmfaaGreatDoorZDocTick6
import Derived.Test.YtmdnlehoeilmfaaGreatDoorZDocTick7
import Derived.Test.YtmdnlehoeilmfaaGreatDoorZDocTick8
set_option linter.unusedVariables false
set_option linter.unusedSimpArgs false
section
/- The row of FnExactDocTick: the law answers true, whatever the input. Printed by rowlaw.py, part 3. -/
namespace Go.Proofs.YtmdnlehoeilmfaaGreatDoor.fnExactDocTick
open Go.ChangeShapes Go.WideShapes Go.ChangeAt Go.RowKit
set_option linter.unusedVariables false
set_option maxRecDepth 100000
theorem andT {a b : Bool} (h1 : a = true) (h2 : b = true) : (a && b) = true := by rw [h1, h2]; rfl
set_option maxHeartbeats 40000000 in
theorem closed : joinedFacts Tryz.prog 6 Tryz.f6 (OpenSpec.ofChange Rows.fnExactDocTickSpec).bare Rows.fnExactDocTickRow = true := by
  unfold joinedFacts
  repeat' with_reducible refine andT ?_ ?_
  all_goals as_aux_lemma => kernel_rfl
end Go.Proofs.YtmdnlehoeilmfaaGreatDoor.fnExactDocTick
end
