/- DocMember: parts RowFDocMember, packed by squash.py. -/
import Derived.Test.YtmdnlehoeilmfaaGreatDoorRows
import Derived.WalkKit
import Derived.ProofKit
import Derived.OpenShut
import Derived.ShutString
import Derived.ChangeOld
import Derived.Below
import Derived.SizedLaws
import Derived.Test.YtmdnlehoeilmfaaGreatDoorCards
import Derived.Test.YtmdnlehoeilmfaaGreatDoorTie
import Derived.Deep.DeepHandedRow
import Derived.Lib.LaidTab
import Derived.Test.YtmdnlehoeilmfaaGreatDoorZDocMember0
import Derived.Test.YtmdnlehoeilmfaaGreatDoorZDocMember1
import Derived.Test.YtmdnlehoeilmfaaGreatDoorZDocMember2
import Derived.Test.YtmdnlehoeilmfaaGreatDoorZDocMember3
import Derived.Test.YtmdnlehoeilmfaaGreatDoorZDocMember4
import Derived.Test.YtmdnlehoeilmfaaGreatDoorZDocMember5
import Derived.Test.YtmdnlehoeilmfaaGreatDoorZDocMember6
import Derived.Test.YtmdnlehoeilmfaaGreatDoorZDocMember7
import Derived.Test.YtmdnlehoeilmfaaGreatDoorZDocMember8
set_option linter.unusedVariables false
set_option linter.unusedSimpArgs false
section
/- The row of FnExactDocMember: the law answers true, whatever the input. Printed by rowlaw.py, part 3. -/
namespace Go.Proofs.YtmdnlehoeilmfaaGreatDoor.fnExactDocMember
open Go.ChangeShapes Go.WideShapes Go.ChangeAt Go.RowKit
set_option linter.unusedVariables false
set_option maxRecDepth 100000
theorem andT {a b : Bool} (h1 : a = true) (h2 : b = true) : (a && b) = true := by rw [h1, h2]; rfl
set_option maxHeartbeats 40000000 in
theorem closed : joinedFacts Tryz.prog 5 Tryz.f5 (OpenSpec.ofChange Rows.fnExactDocMemberSpec).bare Rows.fnExactDocMemberRow = true := by
  unfold joinedFacts
  repeat' with_reducible refine andT ?_ ?_
  all_goals as_aux_lemma => kernel_rfl
end Go.Proofs.YtmdnlehoeilmfaaGreatDoor.fnExactDocMember
end
