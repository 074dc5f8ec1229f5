/- StackMoved: parts RowFStackMoved, packed by squash.py. -/
import Derived.Test.YtpokeekakmijlaaRows
import Derived.WalkKit
import Derived.ProofKit
import Derived.OpenShut
import Derived.ShutString
import Derived.ChangeOld
import Derived.Below
import Derived.SizedLaws
import Derived.Test.YtpokeekakmijlaaZStackMoved0
import Derived.Test.YtpokeekakmijlaaZStackMoved1
import Derived.Test.YtpokeekakmijlaaZStackMoved2
import Derived.Test.YtpokeekakmijlaaZStackMoved3
import Derived.Test.YtpokeekakmijlaaZStackMoved4
import Derived.Test.YtpokeekakmijlaaZStackMoved5
set_option linter.unusedVariables false
set_option linter.unusedSimpArgs false
section
/- The row of FnExactStackMoved: the law answers true, whatever the input. Printed by rowlaw.py, part 2. -/
namespace Go.Proofs.Ytpokeekakmijlaa.fnExactStackMoved
open Go.ChangeShapes Go.WideShapes Go.ChangeAt Go.RowKit
set_option linter.unusedVariables false
set_option maxRecDepth 100000
theorem andT {a b : Bool} (h1 : a = true) (h2 : b = true) : (a && b) = true := by rw [h1, h2]; rfl
set_option maxHeartbeats 40000000 in
theorem closed : joinedFacts Try.prog 5 Try.f5 Rows.fnExactStackMovedSpec Rows.fnExactStackMovedRow = true := by
  unfold joinedFacts
  repeat' with_reducible refine andT ?_ ?_
  all_goals as_aux_lemma => kernel_rfl
end Go.Proofs.Ytpokeekakmijlaa.fnExactStackMoved
end
